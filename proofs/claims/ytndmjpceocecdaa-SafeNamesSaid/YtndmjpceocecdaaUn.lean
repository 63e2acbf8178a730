/- The chapter's examples of which programs may be. -/
import Derived.Test.YtndmjpceocecdaaUm
namespace Go.Proofs.Ytndmjpceocecdaa.E
open Go Go.RowKit Go.Proofs
attribute [local irreducible] TK TL TQ TA Fn PV
theorem mkV_t (n : Nat) (Γ : List HP) : FnV Try.prog 38 [.int .u32 (n : Int)] Γ fun v Γ' => v = .agg (tmC ⟨true, n⟩).toArray ∧ Γ' = Γ := by
  refine Fn.enter Try.func38 rfl rfl rfl fun E => ?_
  refine m_run ?_
  (apply TL.alloc; exact rfl; exact tb rfl; (exact m_lst))
  intro b2
  refine m_run ?_
  (apply TL.pv; exact rfl; (apply PV.build tabs; exact rfl; exact rfl; exact rfl; exact rfl; exact rfl; exact (rfl : _ = tmC ⟨true, n⟩)))
  refine m_run ?_
  (apply TK.retRow (i := 0); exact rfl; exact rfl; exact rfl; exact rfl; exact tb rfl; exact rfl; (exact m_lst); exact rfl)
  · exact ⟨_, rfl, rfl, rfl⟩
  · (repeat (first | exact List.Sublist.refl _ | apply List.Sublist.cons_cons | apply List.Sublist.cons))
theorem mkS_t (n : Nat) (Γ : List HP) : FnV Try.prog 41 [.int .u32 (n : Int)] Γ fun v Γ' => v = .agg (tmC ⟨false, n⟩).toArray ∧ Γ' = Γ := by
  refine Fn.enter Try.func41 rfl rfl rfl fun E => ?_
  refine m_run ?_
  (apply TL.alloc; exact rfl; exact tb rfl; (exact m_lst))
  intro b2
  refine m_run ?_
  (apply TL.pv; exact rfl; (apply PV.build tabs; exact rfl; exact rfl; exact rfl; exact rfl; exact rfl; exact (rfl : _ = tmC ⟨false, n⟩)))
  refine m_run ?_
  (apply TK.retRow (i := 0); exact rfl; exact rfl; exact rfl; exact rfl; exact tb rfl; exact rfl; (exact m_lst); exact rfl)
  · exact ⟨_, rfl, rfl, rfl⟩
  · (repeat (first | exact List.Sublist.refl _ | apply List.Sublist.cons_cons | apply List.Sublist.cons))
theorem mkA_t (a : Atm) (Γ : List HP) : FnV Try.prog 37 [.int .u32 (a.p : Int), .slice a.A a.l.length a.c] Γ fun v Γ' => v = .agg a.cells.toArray ∧ Γ' = Γ := by
  refine Fn.enter Try.func37 rfl rfl rfl fun E => ?_
  refine m_run ?_
  (apply TL.alloc; exact rfl; exact tb rfl; (exact m_lst))
  intro b2
  refine m_run ?_
  (apply TL.pv; exact rfl; (apply PV.build tabs; exact rfl; exact rfl; exact rfl; exact rfl; exact rfl; exact (rfl : _ = a.cells)))
  refine m_run ?_
  (apply TK.retRow (i := 0); exact rfl; exact rfl; exact rfl; exact rfl; exact tb rfl; exact rfl; (exact m_lst); exact rfl)
  · exact ⟨_, rfl, rfl, rfl⟩
  · (repeat (first | exact List.Sublist.refl _ | apply List.Sublist.cons_cons | apply List.Sublist.cons))
theorem mkYes_t (a : Atm) (Γ : List HP) : FnV Try.prog 39 [.int .u32 (a.p : Int), .slice a.A a.l.length a.c] Γ fun v Γ' => v = .agg (Lt.cells ⟨false, a⟩).toArray ∧ Γ' = Γ := by
  refine Fn.enter Try.func39 rfl rfl rfl fun E => ?_
  refine m_run ?_
  (apply TL.alloc; exact rfl; exact tb rfl; (exact m_lst))
  intro b2
  refine m_run ?_
  (apply TL.callV; exact rfl; exact callB_of (by kernel_rfl); exact rfl; exact fun _ h => h)
  exact mkA_t a _
  rintro _ _ ⟨rfl, rfl⟩
  (apply TL.pv; exact rfl; (apply PV.build tabs; exact rfl; exact rfl; exact rfl; exact rfl; exact rfl; exact (rfl : _ = Lt.cells ⟨false, a⟩)))
  refine m_run ?_
  (apply TK.retRow (i := 0); exact rfl; exact rfl; exact rfl; exact rfl; exact tb rfl; exact rfl; (exact m_lst); exact rfl)
  · exact ⟨_, rfl, rfl, rfl⟩
  · (repeat (first | exact List.Sublist.refl _ | apply List.Sublist.cons_cons | apply List.Sublist.cons))
theorem mkNo_t (a : Atm) (Γ : List HP) : FnV Try.prog 40 [.int .u32 (a.p : Int), .slice a.A a.l.length a.c] Γ fun v Γ' => v = .agg (Lt.cells ⟨true, a⟩).toArray ∧ Γ' = Γ := by
  refine Fn.enter Try.func40 rfl rfl rfl fun E => ?_
  refine m_run ?_
  (apply TL.alloc; exact rfl; exact tb rfl; (exact m_lst))
  intro b2
  refine m_run ?_
  (apply TL.callV; exact rfl; exact callB_of (by kernel_rfl); exact rfl; exact fun _ h => h)
  exact mkA_t a _
  rintro _ _ ⟨rfl, rfl⟩
  (apply TL.pv; exact rfl; (apply PV.build tabs; exact rfl; exact rfl; exact rfl; exact rfl; exact rfl; exact (rfl : _ = Lt.cells ⟨true, a⟩)))
  refine m_run ?_
  (apply TK.retRow (i := 0); exact rfl; exact rfl; exact rfl; exact rfl; exact tb rfl; exact rfl; (exact m_lst); exact rfl)
  · exact ⟨_, rfl, rfl, rfl⟩
  · (repeat (first | exact List.Sublist.refl _ | apply List.Sublist.cons_cons | apply List.Sublist.cons))
theorem mkIf_t (c : Cl) (Γ : List HP) : FnV Try.prog 36 [.agg c.h.cells.toArray, .slice c.A c.l.length c.c] Γ fun v Γ' => v = .agg c.cells.toArray ∧ Γ' = Γ := by
  refine Fn.enter Try.func36 rfl rfl rfl fun E => ?_
  refine m_run ?_
  (apply TL.box; exact rfl; exact rfl; (exact m_lst))
  intro b1
  refine m_run ?_
  (apply TL.alloc; exact rfl; exact tb rfl; (exact m_lst))
  intro b2
  refine m_run ?_
  (apply TL.pv; exact rfl; (apply PV.build tabs; exact rfl; exact rfl; exact rfl; exact rfl; exact rfl; exact (rfl : _ = c.cells)))
  refine m_run ?_
  (apply TK.retRow (i := 0); exact rfl; exact rfl; exact rfl; exact rfl; exact tb rfl; exact rfl; (exact m_lst); exact rfl)
  · exact ⟨_, rfl, rfl, rfl⟩
  · (repeat (first | exact List.Sublist.refl _ | apply List.Sublist.cons_cons | apply List.Sublist.cons))
theorem rightIs_of {l : List Cl} {v : Value} {n : Nat} {e : Int} (h : RightIs l v) (hr : Res l n e) : v = .tuple #[.int .i64 (n : Int), .int .i64 e] := by
  obtain ⟨n', e', rfl, hr'⟩ := h
  obtain ⟨rfl, rfl⟩ := res_one hr hr'
  rfl
set_option maxRecDepth 100000 in
set_option maxHeartbeats 8000000 in
theorem works_t (Γ : List HP) : FnV Try.prog 15 [] Γ fun v Γ' => v = .bool true ∧ Γ' = Γ := by
  refine Fn.enter Try.func15 rfl rfl rfl fun E => ?_
  refine m_run ?_
  (apply TL.callV; exact rfl; exact callB_of (by kernel_rfl); exact rfl; exact fun _ h => h)
  exact mkV_t 0 _
  rintro _ Γ ⟨rfl, rfl⟩
  (apply TL.buildSlice (l := tmsC [⟨true, 0⟩]); exact rfl; exact tb rfl; exact rfl; exact tb rfl; exact rfl; exact rfl; exact rfl; exact rfl; exact rfl)
  intro b11
  (apply TL.callV; exact rfl; exact callB_of (by kernel_rfl); exact rfl; exact fun _ h => h)
  exact mkA_t ⟨1, some ⟨b11, 0, none⟩, 1, [⟨true, 0⟩]⟩ _
  rintro _ _ ⟨rfl, rfl⟩
  refine m_run ?_
  (apply TL.callV; exact rfl; exact callB_of (by kernel_rfl); exact rfl; exact fun _ h => h)
  exact mkV_t 0 _
  rintro _ _ ⟨rfl, rfl⟩
  (apply TL.buildSlice (l := tmsC [⟨true, 0⟩]); exact rfl; exact tb rfl; exact rfl; exact tb rfl; exact rfl; exact rfl; exact rfl; exact rfl; exact rfl)
  intro b14
  (apply TL.callV; exact rfl; exact callB_of (by kernel_rfl); exact rfl; exact fun _ h => h)
  exact mkYes_t ⟨2, some ⟨b14, 0, none⟩, 1, [⟨true, 0⟩]⟩ _
  rintro _ _ ⟨rfl, rfl⟩
  refine m_run ?_
  (apply TL.callV; exact rfl; exact callB_of (by kernel_rfl); exact rfl; exact fun _ h => h)
  exact mkV_t 0 _
  rintro _ _ ⟨rfl, rfl⟩
  (apply TL.buildSlice (l := tmsC [⟨true, 0⟩]); exact rfl; exact tb rfl; exact rfl; exact tb rfl; exact rfl; exact rfl; exact rfl; exact rfl; exact rfl)
  intro b17
  (apply TL.callV; exact rfl; exact callB_of (by kernel_rfl); exact rfl; exact fun _ h => h)
  exact mkNo_t ⟨3, some ⟨b17, 0, none⟩, 1, [⟨true, 0⟩]⟩ _
  rintro _ _ ⟨rfl, rfl⟩
  (apply TL.buildSlice (l := ltsC [⟨false, ⟨2, some ⟨b14, 0, none⟩, 1, [⟨true, 0⟩]⟩⟩, ⟨true, ⟨3, some ⟨b17, 0, none⟩, 1, [⟨true, 0⟩]⟩⟩]); exact rfl; exact tb rfl; exact rfl; exact tb rfl; exact rfl; exact rfl; exact rfl; exact rfl; exact rfl)
  intro b19
  (apply TL.callV; exact rfl; exact callB_of (by kernel_rfl); exact rfl; exact fun _ h => h)
  exact mkIf_t ⟨⟨1, some ⟨b11, 0, none⟩, 1, [⟨true, 0⟩]⟩, some ⟨b19, 0, none⟩, 2, [⟨false, ⟨2, some ⟨b14, 0, none⟩, 1, [⟨true, 0⟩]⟩⟩, ⟨true, ⟨3, some ⟨b17, 0, none⟩, 1, [⟨true, 0⟩]⟩⟩]⟩ _
  rintro _ _ ⟨rfl, rfl⟩
  (apply TL.buildSlice (l := clsC [⟨⟨1, some ⟨b11, 0, none⟩, 1, [⟨true, 0⟩]⟩, some ⟨b19, 0, none⟩, 2, [⟨false, ⟨2, some ⟨b14, 0, none⟩, 1, [⟨true, 0⟩]⟩⟩, ⟨true, ⟨3, some ⟨b17, 0, none⟩, 1, [⟨true, 0⟩]⟩⟩]⟩]); exact rfl; exact tb rfl; exact rfl; exact tb rfl; exact rfl; exact rfl; exact rfl; exact rfl; exact rfl)
  intro b21
  refine m_run ?_
  (apply TL.callV; exact rfl; exact callB_of (by kernel_rfl); exact rfl; exact fun _ h => h)
  exact right_t (some ⟨b21, 0, none⟩) 1 [⟨⟨1, some ⟨b11, 0, none⟩, 1, [⟨true, 0⟩]⟩, some ⟨b19, 0, none⟩, 2, [⟨false, ⟨2, some ⟨b14, 0, none⟩, 1, [⟨true, 0⟩]⟩⟩, ⟨true, ⟨3, some ⟨b17, 0, none⟩, 1, [⟨true, 0⟩]⟩⟩]⟩] _ ⟨has_src_row 0 rfl rfl, fun c hc => by
    rw [List.mem_singleton.1 hc]
    exact ⟨⟨⟨has_src_row 4 rfl rfl, Nat.le_refl _⟩, has_src_row 1 rfl rfl, Nat.le_refl _, fun x hx => by
      simp only [List.mem_cons, List.not_mem_nil, or_false] at hx
      rcases hx with rfl | rfl
      · exact ⟨has_src_row 3 rfl rfl, Nat.le_refl _⟩
      · exact ⟨has_src_row 2 rfl rfl, Nat.le_refl _⟩⟩, by show 2 ≤ 1000000; decide, by show 1 ≤ 1000000; decide, fun x hx => by
      simp only [List.mem_cons, List.not_mem_nil, or_false] at hx
      rcases hx with rfl | rfl <;> (show 1 ≤ 1000000; decide)⟩⟩ (by show 1 ≤ 1000000; decide)
  rintro v _ ⟨hv, rfl⟩
  have hr := rightIs_of (n := 0) (e := 0) hv (.inr ⟨by show 1 ≤ 400; decide, .inr ⟨fun k c hk hc => by
    obtain rfl : k = 0 := by simp at hk; omega
    simp at hc
    subst hc
    rfl, rfl, rfl⟩⟩)
  subst hr
  clear hv
  refine TL.sub (Δ := Γ) (by (repeat (first | exact List.Sublist.refl _ | apply List.Sublist.cons_cons | apply List.Sublist.cons))) ?_
  refine m_run ?_
  (apply TL.callV; exact rfl; exact callB_of (by kernel_rfl); exact rfl; exact fun _ h => h)
  exact mkS_t 5 _
  rintro _ Γ ⟨rfl, rfl⟩
  (apply TL.buildSlice (l := tmsC [⟨false, 5⟩]); exact rfl; exact tb rfl; exact rfl; exact tb rfl; exact rfl; exact rfl; exact rfl; exact rfl; exact rfl)
  intro b27
  refine m_run ?_
  (apply TL.callV; exact rfl; exact callB_of (by kernel_rfl); exact rfl; exact fun _ h => h)
  exact mkA_t ⟨1, some ⟨b27, 0, none⟩, 1, [⟨false, 5⟩]⟩ _
  rintro _ _ ⟨rfl, rfl⟩
  refine m_run ?_
  (apply TL.callV; exact rfl; exact callB_of (by kernel_rfl); exact rfl; exact fun _ h => h)
  exact mkIf_t ⟨⟨1, some ⟨b27, 0, none⟩, 1, [⟨false, 5⟩]⟩, none, 0, []⟩ _
  rintro _ _ ⟨rfl, rfl⟩
  refine m_run ?_
  (apply TL.callV; exact rfl; exact callB_of (by kernel_rfl); exact rfl; exact fun _ h => h)
  exact mkV_t 0 _
  rintro _ _ ⟨rfl, rfl⟩
  (apply TL.buildSlice (l := tmsC [⟨true, 0⟩]); exact rfl; exact tb rfl; exact rfl; exact tb rfl; exact rfl; exact rfl; exact rfl; exact rfl; exact rfl)
  intro b31
  refine m_run ?_
  (apply TL.callV; exact rfl; exact callB_of (by kernel_rfl); exact rfl; exact fun _ h => h)
  exact mkA_t ⟨1, some ⟨b31, 0, none⟩, 1, [⟨true, 0⟩]⟩ _
  rintro _ _ ⟨rfl, rfl⟩
  refine m_run ?_
  (apply TL.callV; exact rfl; exact callB_of (by kernel_rfl); exact rfl; exact fun _ h => h)
  exact mkV_t 0 _
  rintro _ _ ⟨rfl, rfl⟩
  (apply TL.buildSlice (l := tmsC [⟨true, 0⟩]); exact rfl; exact tb rfl; exact rfl; exact tb rfl; exact rfl; exact rfl; exact rfl; exact rfl; exact rfl)
  intro b34
  refine m_run ?_
  (apply TL.callV; exact rfl; exact callB_of (by kernel_rfl); exact rfl; exact fun _ h => h)
  exact mkNo_t ⟨2, some ⟨b34, 0, none⟩, 1, [⟨true, 0⟩]⟩ _
  rintro _ _ ⟨rfl, rfl⟩
  (apply TL.buildSlice (l := ltsC [⟨true, ⟨2, some ⟨b34, 0, none⟩, 1, [⟨true, 0⟩]⟩⟩]); exact rfl; exact tb rfl; exact rfl; exact tb rfl; exact rfl; exact rfl; exact rfl; exact rfl; exact rfl)
  intro b36
  refine m_run ?_
  (apply TL.callV; exact rfl; exact callB_of (by kernel_rfl); exact rfl; exact fun _ h => h)
  exact mkIf_t ⟨⟨1, some ⟨b31, 0, none⟩, 1, [⟨true, 0⟩]⟩, some ⟨b36, 0, none⟩, 1, [⟨true, ⟨2, some ⟨b34, 0, none⟩, 1, [⟨true, 0⟩]⟩⟩]⟩ _
  rintro _ _ ⟨rfl, rfl⟩
  (apply TL.buildSlice (l := clsC [⟨⟨1, some ⟨b27, 0, none⟩, 1, [⟨false, 5⟩]⟩, none, 0, []⟩, ⟨⟨1, some ⟨b31, 0, none⟩, 1, [⟨true, 0⟩]⟩, some ⟨b36, 0, none⟩, 1, [⟨true, ⟨2, some ⟨b34, 0, none⟩, 1, [⟨true, 0⟩]⟩⟩]⟩]); exact rfl; exact tb rfl; exact rfl; exact tb rfl; exact rfl; exact rfl; exact rfl; exact rfl; exact rfl)
  intro b38
  refine m_run ?_
  (apply TL.callV; exact rfl; exact callB_of (by kernel_rfl); exact rfl; exact fun _ h => h)
  exact right_t (some ⟨b38, 0, none⟩) 2 [⟨⟨1, some ⟨b27, 0, none⟩, 1, [⟨false, 5⟩]⟩, none, 0, []⟩, ⟨⟨1, some ⟨b31, 0, none⟩, 1, [⟨true, 0⟩]⟩, some ⟨b36, 0, none⟩, 1, [⟨true, ⟨2, some ⟨b34, 0, none⟩, 1, [⟨true, 0⟩]⟩⟩]⟩] _ ⟨has_src_row 0 rfl rfl, fun c hc => by
    simp only [List.mem_cons, List.not_mem_nil, or_false] at hc
    rcases hc with rfl | rfl
    · exact ⟨⟨⟨has_src_row 4 rfl rfl, Nat.le_refl _⟩, has_srcnil _ _, Nat.le_refl _, fun x hx => by cases hx⟩, by simp [Cl.small]⟩
    · exact ⟨⟨⟨has_src_row 3 rfl rfl, Nat.le_refl _⟩, has_src_row 1 rfl rfl, Nat.le_refl _, fun x hx => by
        rw [List.mem_singleton.1 hx]
        exact ⟨has_src_row 2 rfl rfl, Nat.le_refl _⟩⟩, by simp [Cl.small]⟩⟩ (by show 2 ≤ 1000000; decide)
  rintro v _ ⟨hv, rfl⟩
  have hr := rightIs_of (n := 1) (e := 10) hv (.inr ⟨by show 2 ≤ 400; decide, .inl ⟨_, rfl, fun k c hk hc => by
    obtain rfl : k = 0 := by omega
    simp at hc
    subst hc
    rfl, rfl, by decide⟩⟩)
  subst hr
  clear hv
  refine TL.sub (Δ := Γ) (by (repeat (first | exact List.Sublist.refl _ | apply List.Sublist.cons_cons | apply List.Sublist.cons))) ?_
  refine m_run ?_
  (apply TL.callV; exact rfl; exact callB_of (by kernel_rfl); exact rfl; exact fun _ h => h)
  exact mkS_t 5 _
  rintro _ Γ ⟨rfl, rfl⟩
  (apply TL.buildSlice (l := tmsC [⟨false, 5⟩]); exact rfl; exact tb rfl; exact rfl; exact tb rfl; exact rfl; exact rfl; exact rfl; exact rfl; exact rfl)
  intro b44
  refine m_run ?_
  (apply TL.callV; exact rfl; exact callB_of (by kernel_rfl); exact rfl; exact fun _ h => h)
  exact mkA_t ⟨1, some ⟨b44, 0, none⟩, 1, [⟨false, 5⟩]⟩ _
  rintro _ _ ⟨rfl, rfl⟩
  refine m_run ?_
  (apply TL.callV; exact rfl; exact callB_of (by kernel_rfl); exact rfl; exact fun _ h => h)
  exact mkS_t 5 _
  rintro _ _ ⟨rfl, rfl⟩
  refine m_run ?_
  (apply TL.callV; exact rfl; exact callB_of (by kernel_rfl); exact rfl; exact fun _ h => h)
  exact mkS_t 6 _
  rintro _ _ ⟨rfl, rfl⟩
  (apply TL.buildSlice (l := tmsC [⟨false, 5⟩, ⟨false, 6⟩]); exact rfl; exact tb rfl; exact rfl; exact tb rfl; exact rfl; exact rfl; exact rfl; exact rfl; exact rfl)
  intro b48
  refine m_run ?_
  (apply TL.callV; exact rfl; exact callB_of (by kernel_rfl); exact rfl; exact fun _ h => h)
  exact mkYes_t ⟨1, some ⟨b48, 0, none⟩, 2, [⟨false, 5⟩, ⟨false, 6⟩]⟩ _
  rintro _ _ ⟨rfl, rfl⟩
  (apply TL.buildSlice (l := ltsC [⟨false, ⟨1, some ⟨b48, 0, none⟩, 2, [⟨false, 5⟩, ⟨false, 6⟩]⟩⟩]); exact rfl; exact tb rfl; exact rfl; exact tb rfl; exact rfl; exact rfl; exact rfl; exact rfl; exact rfl)
  intro b50
  refine m_run ?_
  (apply TL.callV; exact rfl; exact callB_of (by kernel_rfl); exact rfl; exact fun _ h => h)
  exact mkIf_t ⟨⟨1, some ⟨b44, 0, none⟩, 1, [⟨false, 5⟩]⟩, some ⟨b50, 0, none⟩, 1, [⟨false, ⟨1, some ⟨b48, 0, none⟩, 2, [⟨false, 5⟩, ⟨false, 6⟩]⟩⟩]⟩ _
  rintro _ _ ⟨rfl, rfl⟩
  (apply TL.buildSlice (l := clsC [⟨⟨1, some ⟨b44, 0, none⟩, 1, [⟨false, 5⟩]⟩, some ⟨b50, 0, none⟩, 1, [⟨false, ⟨1, some ⟨b48, 0, none⟩, 2, [⟨false, 5⟩, ⟨false, 6⟩]⟩⟩]⟩]); exact rfl; exact tb rfl; exact rfl; exact tb rfl; exact rfl; exact rfl; exact rfl; exact rfl; exact rfl)
  intro b52
  refine m_run ?_
  (apply TL.callV; exact rfl; exact callB_of (by kernel_rfl); exact rfl; exact fun _ h => h)
  exact right_t (some ⟨b52, 0, none⟩) 1 [⟨⟨1, some ⟨b44, 0, none⟩, 1, [⟨false, 5⟩]⟩, some ⟨b50, 0, none⟩, 1, [⟨false, ⟨1, some ⟨b48, 0, none⟩, 2, [⟨false, 5⟩, ⟨false, 6⟩]⟩⟩]⟩] _ ⟨has_src_row 0 rfl rfl, fun c hc => by
    rw [List.mem_singleton.1 hc]
    exact ⟨⟨⟨has_src_row 3 rfl rfl, Nat.le_refl _⟩, has_src_row 1 rfl rfl, Nat.le_refl _, fun x hx => by
      rw [List.mem_singleton.1 hx]
      exact ⟨has_src_row 2 rfl rfl, Nat.le_refl _⟩⟩, by simp [Cl.small]⟩⟩ (by show 1 ≤ 1000000; decide)
  rintro v _ ⟨hv, rfl⟩
  have hr := rightIs_of (n := 0) (e := 9) hv (.inr ⟨by show 1 ≤ 400; decide, .inl ⟨_, rfl, fun k c hk hc => by omega, rfl, by decide⟩⟩)
  subst hr
  clear hv
  refine TL.sub (Δ := Γ) (by (repeat (first | exact List.Sublist.refl _ | apply List.Sublist.cons_cons | apply List.Sublist.cons))) ?_
  refine m_run ?_
  (apply TL.pv; exact rfl; (apply PV.build tabs; exact rfl; exact rfl; exact rfl; exact rfl; exact rfl; exact (rfl : _ = Fct.cells ⟨1, none, 0, []⟩)))
  refine m_run ?_
  (apply TL.buildSlice (l := u32s [2]); exact rfl; exact tb rfl; exact rfl; exact tb rfl; exact rfl; exact rfl; exact rfl; exact rfl; exact rfl)
  intro b58
  (apply TL.pv; exact rfl; (apply PV.build tabs; exact rfl; exact rfl; exact rfl; exact rfl; exact rfl; exact (rfl : _ = Fct.cells ⟨1, some ⟨b58, 0, none⟩, 1, [2]⟩)))
  (apply TL.buildSlice (l := fcsC [⟨1, none, 0, []⟩, ⟨1, some ⟨b58, 0, none⟩, 1, [2]⟩]); exact rfl; exact tb rfl; exact rfl; exact tb rfl; exact rfl; exact rfl; exact rfl; exact rfl; exact rfl)
  intro b60
  refine m_run ?_
  (apply TL.callV; exact rfl; exact callB_of (by kernel_rfl); exact rfl; exact fun _ h => h)
  exact arities_t none (some ⟨b60, 0, none⟩) 0 2 [] [⟨1, none, 0, []⟩, ⟨1, some ⟨b58, 0, none⟩, 1, [2]⟩] _ ⟨has_srcnil _ _, fun c hc => by cases hc⟩ (has_src_row 0 rfl rfl) (by decide) (by show 2 ≤ 1000000; decide)
  rintro v _ ⟨⟨_, hv⟩, rfl⟩
  obtain ⟨n, e, hv, hra⟩ := hv cons_nil
  have h1 : ResA (atsL []) [⟨1, none, 0, []⟩, ⟨1, some ⟨b58, 0, none⟩, 1, [2]⟩] 1 9 := by
    refine .inl ⟨⟨1, some ⟨b58, 0, none⟩, 1, [2]⟩, rfl, fun k f hk hf => ?_, .inr ⟨(1, 0), List.mem_append_right _ (List.mem_cons_self ..), rfl, by show 0 ≠ 1; decide⟩, rfl⟩
    obtain rfl : k = 0 := by omega
    simp at hf
    subst hf
    rintro (h | ⟨a, ha, _⟩)
    · exact absurd h (by show ¬ 6 < 0; decide)
    · cases ha
  obtain ⟨rfl, rfl⟩ := resA_one h1 hra
  subst hv
  clear hra
  refine TL.sub (Δ := Γ) (by (repeat (first | exact List.Sublist.refl _ | apply List.Sublist.cons_cons | apply List.Sublist.cons))) ?_
  refine m_run ?_
  (apply TK.ret1; exact rfl; exact rfl; (exact m_val))
  exact ⟨_, rfl, rfl, rfl⟩
end Go.Proofs.Ytndmjpceocecdaa.E
