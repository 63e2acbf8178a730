/- WireBack: walked. -/
import Derived.Test.YtokggdgagfmacaaXq
namespace Go.Proofs.Ytokggdgagfmacaa.E
open Go Go.RowKit Go.Proofs
theorem putA.any {Γ Γ' : List HP} {may : Bool} {l : List UInt8} {v : Value} (h : putA Γ may l v Γ') : ∃ (A : Option Addr) (c : Nat) (one : List UInt8) (e : Nat), v = .tuple #[.slice A one.length c, .int .i64 (e : Int)] ∧ one.length ≤ c ∧ (∀ m, all Γ' m → all (bsA 5 (.slice A one.length c) one :: Γ) m) ∧ ((may = true ∧ one = l ∧ e = 0) ∨ (may = false ∧ one = [] ∧ e = 8)) := by
  cases may with
  | true =>
    obtain ⟨A, c, rfl, hc, rfl⟩ := h.got rfl
    exact ⟨A, c, l, 0, rfl, hc, fun _ h => h, .inl ⟨rfl, rfl, rfl⟩⟩
  | false =>
    obtain ⟨rfl, rfl⟩ := h.lost rfl
    exact ⟨none, 0, [], 8, rfl, Nat.le_refl _, fun m hm => sep_mono (sep_comm (sep_emp hm)) (fun m h => bs_nil _ h) fun _ h => h, .inr ⟨rfl, rfl, rfl⟩⟩
theorem clB_max {c : Cl} (h : c.fit) (hm : mayC c = true) : (clB c).length ≤ 333 := by
  obtain ⟨hm8, hmh, hms⟩ := mayC_inv hm
  have h1 := atmB_len h.1
  have h2 : (litsB c.l).length ≤ c.l.length * 37 := flatB_len _ fun x hx => litB_len (h.2 x hx) (hms x hx)
  simp only [clB, List.length_append, List.length_singleton]; omega
theorem rlB_max {c : Rl} (h : c.fit) (hm : mayR c = true) : 0 < (rlB c).length ∧ (rlB c).length ≤ 387 := by
  obtain ⟨hm8, hmh, hms⟩ := mayR_inv hm
  have h1 := sayB_len h.1
  have h2 : (cdsB c.l).length ≤ c.l.length * 43 := flatB_len _ fun x hx => cdB_len (h.2 x hx) (hms x hx)
  simp only [rlB, List.length_append, List.length_singleton]; omega
theorem fit_f {l : List UInt8} {x : Nat × List Nat} {next : Nat} (h : tookF l 0 = (x, next, 0)) : x.1 ≤ 4294967295 ∧ ∀ n ∈ x.2, n ≤ 4294967295 := by
  obtain ⟨_, _, h1, _⟩ := tookS_inv h
  obtain ⟨a, _, _, _⟩ := rd_fct.take l 0 x next h1 (Nat.zero_le _)
  exact ⟨a.1, a.2.2⟩
attribute [local irreducible] TK TL TQ TA TB Fn PV
set_option maxRecDepth 100000 in
set_option maxHeartbeats 40000000 in
theorem wback_t (f : Fct) (cl : Cl) (r : Rl) (A B : Option Addr) (m cA m' cB : Nat) (tail raw : List UInt8) (Γ : List HP) (hf : f.ok Γ) (hff : f.fit) (hc : cl.ok Γ) (hcf : cl.fit) (hr : r.ok Γ) (hrf : r.fit) (h1 : has Γ (srcAt 1 A m (bytesV tail))) (h2 : has Γ (srcAt 1 B m' (bytesV raw))) (hcA : m ≤ cA) (hcB : m' ≤ cB) :
    FnV Try.prog 7 [.agg f.cells.toArray, .agg cl.cells.toArray, .agg r.cells.toArray, .slice A m cA, .slice B m' cB] Γ fun v Γ' => v = .bool true ∧ Γ' = Γ := by
  refine Fn.enter Try.func7 rfl rfl rfl fun E => ?_
  refine TK.mem fun m0 hm0 => ?_
  obtain rfl := src_lenB (h1 m0 hm0)
  obtain rfl := src_lenB (h2 m0 hm0)
  clear hm0 m0
  by_cases hv1 : 100 < f.l.length
  · refine m_run ?_
    (apply TL.box; exact rfl; exact rfl; (exact m_lst))
    intro b5
    refine m_run ?_
    (apply TL.box; exact rfl; exact rfl; (exact m_lst))
    intro b6
    refine m_run ?_
    (apply TL.box; exact rfl; exact rfl; (exact m_lst))
    intro b7
    refine TL.imp (Δ := row b7 [.bool r.h.s, .bool r.h.w.v, .int .u32 (r.h.w.n : Int), .int .u32 (r.h.a.p : Int), .slice r.h.a.A r.h.a.l.length r.h.a.c, .slice r.A r.l.length r.c] 59 :: row b6 [.int .u32 (cl.h.p : Int), .slice cl.h.A cl.h.l.length cl.h.c, .slice cl.A cl.l.length cl.c] 45 :: row b5 [.int .u32 (f.p : Int), .slice f.A f.l.length f.c] 26 :: Γ) (fun _ h => h) ?_
    refine m_run ?_
    (apply TL.callV; exact rfl; exact callB_of (by kernel_rfl); exact rfl; exact fun _ h => h)
    exact works6_t _
    rintro _ _ ⟨rfl, rfl⟩
    refine m_run ?_
    (apply TK.retS1; exact rfl; exact rfl; (exact m_val))
    · exact ⟨_, rfl, rfl, rfl⟩
    · (repeat (first | exact List.Sublist.refl _ | apply List.Sublist.cons_cons | apply List.Sublist.cons))
  cases hbc : bigC cl with
  | true =>
    refine m_run ?_
    (apply TL.box; exact rfl; exact rfl; (exact m_lst))
    intro b5
    refine m_run ?_
    (apply TL.box; exact rfl; exact rfl; (exact m_lst))
    intro b6
    refine m_run ?_
    (apply TL.box; exact rfl; exact rfl; (exact m_lst))
    intro b7
    refine TL.imp (Δ := row b7 [.bool r.h.s, .bool r.h.w.v, .int .u32 (r.h.w.n : Int), .int .u32 (r.h.a.p : Int), .slice r.h.a.A r.h.a.l.length r.h.a.c, .slice r.A r.l.length r.c] 59 :: row b6 [.int .u32 (cl.h.p : Int), .slice cl.h.A cl.h.l.length cl.h.c, .slice cl.A cl.l.length cl.c] 45 :: row b5 [.int .u32 (f.p : Int), .slice f.A f.l.length f.c] 26 :: Γ) (fun _ h => h) ?_
    refine m_run ?_
    (apply TL.callV; exact rfl; exact callB_of (by kernel_rfl); exact rfl; exact fun _ h => h)
    exact rbigC_t cl _ (Cl.ok_tl (Cl.ok_tl (Cl.ok_tl hc)))
    rintro _ _ ⟨rfl, rfl⟩
    rw [hbc]
    refine m_run ?_
    (apply TL.callV; exact rfl; exact callB_of (by kernel_rfl); exact rfl; exact fun _ h => h)
    exact works6_t _
    rintro _ _ ⟨rfl, rfl⟩
    refine m_run ?_
    (apply TK.retS1; exact rfl; exact rfl; (exact m_val))
    · exact ⟨_, rfl, rfl, rfl⟩
    · (repeat (first | exact List.Sublist.refl _ | apply List.Sublist.cons_cons | apply List.Sublist.cons))
  | false =>
  cases hbr : bigR r with
  | true =>
    refine m_run ?_
    (apply TL.box; exact rfl; exact rfl; (exact m_lst))
    intro b5
    refine m_run ?_
    (apply TL.box; exact rfl; exact rfl; (exact m_lst))
    intro b6
    refine m_run ?_
    (apply TL.box; exact rfl; exact rfl; (exact m_lst))
    intro b7
    refine TL.imp (Δ := row b7 [.bool r.h.s, .bool r.h.w.v, .int .u32 (r.h.w.n : Int), .int .u32 (r.h.a.p : Int), .slice r.h.a.A r.h.a.l.length r.h.a.c, .slice r.A r.l.length r.c] 59 :: row b6 [.int .u32 (cl.h.p : Int), .slice cl.h.A cl.h.l.length cl.h.c, .slice cl.A cl.l.length cl.c] 45 :: row b5 [.int .u32 (f.p : Int), .slice f.A f.l.length f.c] 26 :: Γ) (fun _ h => h) ?_
    refine m_run ?_
    (apply TL.callV; exact rfl; exact callB_of (by kernel_rfl); exact rfl; exact fun _ h => h)
    exact rbigC_t cl _ (Cl.ok_tl (Cl.ok_tl (Cl.ok_tl hc)))
    rintro _ _ ⟨rfl, rfl⟩
    rw [hbc]
    refine m_run ?_
    (apply TL.callV; exact rfl; exact callB_of (by kernel_rfl); exact rfl; exact fun _ h => h)
    exact rbigR_t r _ (Rl.ok_tl (Rl.ok_tl (Rl.ok_tl hr)))
    rintro _ _ ⟨rfl, rfl⟩
    rw [hbr]
    refine m_run ?_
    (apply TL.callV; exact rfl; exact callB_of (by kernel_rfl); exact rfl; exact fun _ h => h)
    exact works6_t _
    rintro _ _ ⟨rfl, rfl⟩
    refine m_run ?_
    (apply TK.retS1; exact rfl; exact rfl; (exact m_val))
    · exact ⟨_, rfl, rfl, rfl⟩
    · (repeat (first | exact List.Sublist.refl _ | apply List.Sublist.cons_cons | apply List.Sublist.cons))
  | false =>
  by_cases hv4 : 4096 < tail.length
  · refine m_run ?_
    (apply TL.box; exact rfl; exact rfl; (exact m_lst))
    intro b5
    refine m_run ?_
    (apply TL.box; exact rfl; exact rfl; (exact m_lst))
    intro b6
    refine m_run ?_
    (apply TL.box; exact rfl; exact rfl; (exact m_lst))
    intro b7
    refine TL.imp (Δ := row b7 [.bool r.h.s, .bool r.h.w.v, .int .u32 (r.h.w.n : Int), .int .u32 (r.h.a.p : Int), .slice r.h.a.A r.h.a.l.length r.h.a.c, .slice r.A r.l.length r.c] 59 :: row b6 [.int .u32 (cl.h.p : Int), .slice cl.h.A cl.h.l.length cl.h.c, .slice cl.A cl.l.length cl.c] 45 :: row b5 [.int .u32 (f.p : Int), .slice f.A f.l.length f.c] 26 :: Γ) (fun _ h => h) ?_
    refine m_run ?_
    (apply TL.callV; exact rfl; exact callB_of (by kernel_rfl); exact rfl; exact fun _ h => h)
    exact rbigC_t cl _ (Cl.ok_tl (Cl.ok_tl (Cl.ok_tl hc)))
    rintro _ _ ⟨rfl, rfl⟩
    rw [hbc]
    refine m_run ?_
    (apply TL.callV; exact rfl; exact callB_of (by kernel_rfl); exact rfl; exact fun _ h => h)
    exact rbigR_t r _ (Rl.ok_tl (Rl.ok_tl (Rl.ok_tl hr)))
    rintro _ _ ⟨rfl, rfl⟩
    rw [hbr]
    refine m_run ?_
    (apply TL.callV; exact rfl; exact callB_of (by kernel_rfl); exact rfl; exact fun _ h => h)
    exact vast_t A tail.length cA _
    rintro _ _ ⟨rfl, rfl⟩
    rw [decide_eq_true hv4]
    refine m_run ?_
    (apply TL.callV; exact rfl; exact callB_of (by kernel_rfl); exact rfl; exact fun _ h => h)
    exact works6_t _
    rintro _ _ ⟨rfl, rfl⟩
    refine m_run ?_
    (apply TK.retS1; exact rfl; exact rfl; (exact m_val))
    · exact ⟨_, rfl, rfl, rfl⟩
    · (repeat (first | exact List.Sublist.refl _ | apply List.Sublist.cons_cons | apply List.Sublist.cons))
  by_cases hv5 : 4096 < raw.length
  · refine m_run ?_
    (apply TL.box; exact rfl; exact rfl; (exact m_lst))
    intro b5
    refine m_run ?_
    (apply TL.box; exact rfl; exact rfl; (exact m_lst))
    intro b6
    refine m_run ?_
    (apply TL.box; exact rfl; exact rfl; (exact m_lst))
    intro b7
    refine TL.imp (Δ := row b7 [.bool r.h.s, .bool r.h.w.v, .int .u32 (r.h.w.n : Int), .int .u32 (r.h.a.p : Int), .slice r.h.a.A r.h.a.l.length r.h.a.c, .slice r.A r.l.length r.c] 59 :: row b6 [.int .u32 (cl.h.p : Int), .slice cl.h.A cl.h.l.length cl.h.c, .slice cl.A cl.l.length cl.c] 45 :: row b5 [.int .u32 (f.p : Int), .slice f.A f.l.length f.c] 26 :: Γ) (fun _ h => h) ?_
    refine m_run ?_
    (apply TL.callV; exact rfl; exact callB_of (by kernel_rfl); exact rfl; exact fun _ h => h)
    exact rbigC_t cl _ (Cl.ok_tl (Cl.ok_tl (Cl.ok_tl hc)))
    rintro _ _ ⟨rfl, rfl⟩
    rw [hbc]
    refine m_run ?_
    (apply TL.callV; exact rfl; exact callB_of (by kernel_rfl); exact rfl; exact fun _ h => h)
    exact rbigR_t r _ (Rl.ok_tl (Rl.ok_tl (Rl.ok_tl hr)))
    rintro _ _ ⟨rfl, rfl⟩
    rw [hbr]
    refine m_run ?_
    (apply TL.callV; exact rfl; exact callB_of (by kernel_rfl); exact rfl; exact fun _ h => h)
    exact vast_t A tail.length cA _
    rintro _ _ ⟨rfl, rfl⟩
    rw [decide_eq_false hv4]
    refine m_run ?_
    (apply TL.callV; exact rfl; exact callB_of (by kernel_rfl); exact rfl; exact fun _ h => h)
    exact vast_t B raw.length cB _
    rintro _ _ ⟨rfl, rfl⟩
    rw [decide_eq_true hv5]
    refine m_run ?_
    (apply TL.callV; exact rfl; exact callB_of (by kernel_rfl); exact rfl; exact fun _ h => h)
    exact works6_t _
    rintro _ _ ⟨rfl, rfl⟩
    refine m_run ?_
    (apply TK.retS1; exact rfl; exact rfl; (exact m_val))
    · exact ⟨_, rfl, rfl, rfl⟩
    · (repeat (first | exact List.Sublist.refl _ | apply List.Sublist.cons_cons | apply List.Sublist.cons))
  have hcs : cl.small := small_of hbc
  have hrs : r.small := smallR_of hbr
  refine m_run ?_
  (apply TL.box; exact rfl; exact rfl; (exact m_lst))
  intro b5
  refine m_run ?_
  (apply TL.box; exact rfl; exact rfl; (exact m_lst))
  intro b6
  refine m_run ?_
  (apply TL.box; exact rfl; exact rfl; (exact m_lst))
  intro b7
  refine TL.imp (Δ := row b7 [.bool r.h.s, .bool r.h.w.v, .int .u32 (r.h.w.n : Int), .int .u32 (r.h.a.p : Int), .slice r.h.a.A r.h.a.l.length r.h.a.c, .slice r.A r.l.length r.c] 59 :: row b6 [.int .u32 (cl.h.p : Int), .slice cl.h.A cl.h.l.length cl.h.c, .slice cl.A cl.l.length cl.c] 45 :: row b5 [.int .u32 (f.p : Int), .slice f.A f.l.length f.c] 26 :: Γ) (fun _ h => h) ?_
  refine m_run ?_
  (apply TL.callV; exact rfl; exact callB_of (by kernel_rfl); exact rfl; exact fun _ h => h)
  exact rbigC_t cl _ (Cl.ok_tl (Cl.ok_tl (Cl.ok_tl hc)))
  rintro _ _ ⟨rfl, rfl⟩
  rw [hbc]
  refine m_run ?_
  (apply TL.callV; exact rfl; exact callB_of (by kernel_rfl); exact rfl; exact fun _ h => h)
  exact rbigR_t r _ (Rl.ok_tl (Rl.ok_tl (Rl.ok_tl hr)))
  rintro _ _ ⟨rfl, rfl⟩
  rw [hbr]
  refine m_run ?_
  (apply TL.callV; exact rfl; exact callB_of (by kernel_rfl); exact rfl; exact fun _ h => h)
  exact vast_t A tail.length cA _
  rintro _ _ ⟨rfl, rfl⟩
  rw [decide_eq_false hv4]
  refine m_run ?_
  (apply TL.callV; exact rfl; exact callB_of (by kernel_rfl); exact rfl; exact fun _ h => h)
  exact vast_t B raw.length cB _
  rintro _ _ ⟨rfl, rfl⟩
  rw [decide_eq_false hv5]
  refine m_run ?_
  (apply TL.callV; exact rfl; exact callB_of (by kernel_rfl); exact rfl; exact fun _ h => h)
  exact putfact_t A tail.length cA tail f _ (by exact m_hsrc) (Fct.ok_tl (Fct.ok_tl (Fct.ok_tl hf))) hff (by omega) (by omega)
  intro v Γ' hput
  obtain ⟨A1, c1, one, e, rfl, hc1, himp, hcase⟩ := hput.any
  refine TL.imp himp ?_
  have hol : one.length ≤ 10000 := by
    rcases hcase with ⟨hm, rfl, _⟩ | ⟨_, rfl, _⟩
    · have := fctB_len hff
      rw [List.length_append]; omega
    · exact Nat.zero_le _
  refine m_run ?_
  (apply TL.buildSlice; exact rfl; exact tb rfl; exact rfl; exact tb rfl; exact rfl; exact rfl; exact rfl; exact rfl; (exact m_lst))
  intro b54
  refine m_run ?_
  (apply TL.appB 0; exact rfl; exact rfl; exact tb rfl; exact rfl; exact tb rfl; exact rfl; exact rfl; exact rfl; exact rfl; exact fun _ h => bs_row (l := []) rfl rfl (by decide) h; exact rfl; (exact m_hsrc))
  · first | omega | (simp; omega)
  · exact fun _ => (rfl : _ = _ :: _)
  intro A2 c2 hc2
  rw [List.nil_append] at hc2 ⊢
  refine m_run ?_
  (apply TL.appB 0; exact rfl; exact rfl; exact tb rfl; exact rfl; exact tb rfl; exact rfl; exact rfl; exact rfl; exact rfl; exact fun _ h => h; exact rfl; (exact m_hsrc))
  · first | omega | (simp only [List.length_append]; omega)
  · exact fun _ => (rfl : _ = _ :: _)
  intro A3 c3 hc3
  refine m_run ?_
  (apply TL.callV; exact rfl; exact callB_of (by kernel_rfl); exact rfl; exact fun _ h => h)
  exact takefact_t A3 (one ++ tail).length c3 (one ++ tail) ((tail.length : Nat) : Int) _ (has_bs 0 rfl) hc3 (by rw [List.length_append]; omega)
  obtain ⟨⟨x, next, g⟩, hT⟩ : ∃ z, tookF (one ++ tail) ((tail.length : Nat) : Int) = z := ⟨_, rfl⟩
  rw [hT]
  intro v Γ2 hv
  obtain ⟨B1, k1, hk1, rfl, rfl⟩ : ∃ B kk, x.2.length ≤ kk ∧ v = .tuple #[.agg (Fct.cells ⟨x.1, B, kk, x.2⟩).toArray, .int .i64 (next : Int), .int .i64 (g : Int)] ∧ Γ2 = ownU B kk x.2 :: _ := hv
  refine TL.sub (List.Sublist.cons_cons _ (List.Sublist.cons _ (List.Sublist.cons _ (List.Sublist.refl _)))) ?_
  refine m_rrun ?_
  (apply TL.alloc; exact rfl; exact tb rfl; exact (rfl : _ = [_, _]))
  intro b13
  refine TL.imp (Δ := row b13 [.int .u32 0, .slice none 0 0] 26 :: _) (fun _ h => h) ?_
  refine m_rrun ?_
  refine TL.nil ?_
  (repeat (first | refine TK.seq ?_ | refine TK.skip ?_))
  apply TK.cut (fun ρ' Γ' => ∃ u1 u2 : Value, lk ρ' 3 = .slice A tail.length cA ∧ lk ρ' 4 = .slice B raw.length cB ∧ lk ρ' 6 = .pointer (some ⟨b6, 0, none⟩) ∧ lk ρ' 7 = .pointer (some ⟨b7, 0, none⟩) ∧ lk ρ' 13 = .pointer (some ⟨b13, 0, none⟩) ∧ lk ρ' 90 = .bool false ∧ Γ' = row b7 [.bool r.h.s, .bool r.h.w.v, .int .u32 (r.h.w.n : Int), .int .u32 (r.h.a.p : Int), .slice r.h.a.A r.h.a.l.length r.h.a.c, .slice r.A r.l.length r.c] 59 :: row b6 [.int .u32 (cl.h.p : Int), .slice cl.h.A cl.h.l.length cl.h.c, .slice cl.A cl.l.length cl.c] 45 :: row b13 [u1, u2] 26 :: Γ)
  · intro k' tl
    rcases hcase with ⟨hm, rfl, rfl⟩ | ⟨_, rfl, rfl⟩
    · have hel := fctB_len hff
      have h6 : f.l.length ≤ 6 := of_decide_eq_true hm
      have hbk := back_f (pre := tail) (post := tail) hff (of_decide_eq_true hm)
      rw [hT] at hbk
      injection hbk with q1 q2
      injection q2 with q2 q3
      subst q1; subst q2; subst q3
      have hw : IntKind.i64.wrap (((tail ++ fctB f).length : Int) - (tail.length : Int)) = ((fctB f).length : Int) := by rw [List.length_append, i64_in (by omega) (by omega)]; omega
      refine TK.region ?_
      refine m_rrun ?_
      (apply TL.callV; exact rfl; exact callB_of (by kernel_rfl); exact rfl; exact fun _ h => h)
      exact rsameFact_t ⟨f.p, B1, k1, f.l⟩ f _ ⟨has_at (up_src _ _ _ _) 1 rfl fun _ h => own_src h, hk1⟩ (Fct.ok_tl (Fct.ok_tl (Fct.ok_tl (Fct.ok_tl (Fct.ok_tl hf))))) (show f.l.length ≤ 1000000 by omega)
      rintro _ _ ⟨rfl, rfl⟩
      rw [show decide (cmpF ⟨f.p, B1, k1, f.l⟩ f = 0) = true from decide_eq_true (cmpF_zero.2 ⟨rfl, rfl⟩)]
      refine m_rrun ?_
      refine TL.nil ?_
      refine TK.sub (List.Sublist.cons_cons _ (List.Sublist.cons _ (List.Sublist.cons_cons _ (List.Sublist.cons_cons _ (List.Sublist.cons _ (List.Sublist.refl _)))))) ?_
      refine TK.perm (List.Perm.trans (List.Perm.swap _ _ _) (List.Perm.cons _ (List.Perm.swap _ _ _))) ?_
      exact tl _ _ ⟨_, _, rfl, rfl, rfl, rfl, rfl, congrArg Value.bool (decide_eq_false (by rw [hw]; omega)), rfl⟩
    · refine TK.region ?_
      refine m_rrun ?_
      refine TL.nil ?_
      refine TK.sub (List.Sublist.cons_cons _ (List.Sublist.cons _ (List.Sublist.cons_cons _ (List.Sublist.cons_cons _ (List.Sublist.cons _ (List.Sublist.refl _)))))) ?_
      refine TK.perm (List.Perm.trans (List.Perm.swap _ _ _) (List.Perm.cons _ (List.Perm.swap _ _ _))) ?_
      exact tl _ _ ⟨_, _, rfl, rfl, rfl, rfl, rfl, rfl, rfl⟩
  rintro ρ1 _ ⟨u1, u2, e3, e4, e6, e7, e13, e90, rfl⟩
  refine TK.know6 e3 e4 e6 e7 e13 e90 ?_
  clear hcase hT himp
  refine m_run ?_
  (apply TL.callV; exact rfl; exact callB_of (by kernel_rfl); exact rfl; exact fun _ h => h)
  exact putclause_t A tail.length cA tail cl _ (by exact m_hsrc) (Cl.ok_tl (Cl.ok_tl (Cl.ok_tl hc))) hcf hcs (by omega)
  intro v Γ' hput
  obtain ⟨A1, c1, one, e, rfl, hc1, himp, hcase⟩ := hput.any
  refine TL.imp himp ?_
  have hol : one.length ≤ 10000 := by
    rcases hcase with ⟨hm, rfl, _⟩ | ⟨_, rfl, _⟩
    · have := clB_len hcf hm
      rw [List.length_append]; omega
    · exact Nat.zero_le _
  refine m_run ?_
  (apply TL.buildSlice; exact rfl; exact tb rfl; exact rfl; exact tb rfl; exact rfl; exact rfl; exact rfl; exact rfl; (exact m_lst))
  intro b54
  refine m_run ?_
  (apply TL.appB 0; exact rfl; exact rfl; exact tb rfl; exact rfl; exact tb rfl; exact rfl; exact rfl; exact rfl; exact rfl; exact fun _ h => bs_row (l := []) rfl rfl (by decide) h; exact rfl; (exact m_hsrc))
  · first | omega | (simp; omega)
  · exact fun _ => (rfl : _ = _ :: _)
  intro A2 c2 hc2
  rw [List.nil_append] at hc2 ⊢
  refine m_run ?_
  (apply TL.appB 0; exact rfl; exact rfl; exact tb rfl; exact rfl; exact tb rfl; exact rfl; exact rfl; exact rfl; exact rfl; exact fun _ h => h; exact rfl; (exact m_hsrc))
  · first | omega | (simp only [List.length_append]; omega)
  · exact fun _ => (rfl : _ = _ :: _)
  intro A3 c3 hc3
  refine m_run ?_
  refine TL.know (t := 107) (v := .int .i64 ((min tail.length one.length : Nat) : Int)) (congrArg (Value.int .i64) (by omega)) ?_
  (apply TL.callV; exact rfl; exact callB_of (by kernel_rfl); exact rfl; exact fun _ h => h)
  exact takeclause_t A3 (one ++ tail).length c3 (one ++ tail) ((min tail.length one.length : Nat) : Int) _ (has_bs 0 rfl) hc3 (by rw [List.length_append]; omega)
  obtain ⟨⟨x, next, g⟩, hT⟩ : ∃ z, tookC (one ++ tail) ((min tail.length one.length : Nat) : Int) = z := ⟨_, rfl⟩
  rw [hT]
  intro v Γ2 hv
  obtain ⟨C, hC, hg, rfl, rfl⟩ : ∃ C : Cl, clVal C = x ∧ C.good ∧ v = .tuple #[.agg C.cells.toArray, .int .i64 (next : Int), .int .i64 (g : Int)] ∧ Γ2 = _ := hv
  refine TL.sub (List.Sublist.cons_cons _ (List.Sublist.cons_cons _ (List.Sublist.cons_cons _ (List.Sublist.cons _ (List.Sublist.cons _ (List.Sublist.refl _)))))) ?_
  refine m_rrun ?_
  (apply TL.alloc; exact rfl; exact tb rfl; exact (rfl : _ = [_, _, _]))
  intro b17
  refine TL.imp (Δ := row b17 [.int .u32 0, .slice none 0 0, .slice none 0 0] 45 :: _) (fun _ h => h) ?_
  refine m_rrun ?_
  refine TL.nil ?_
  (repeat (first | refine TK.seq ?_ | refine TK.skip ?_))
  apply TK.cut (fun ρ' Γ' => ∃ v1 v2 v3 : Value, lk ρ' 3 = .slice A tail.length cA ∧ lk ρ' 4 = .slice B raw.length cB ∧ lk ρ' 7 = .pointer (some ⟨b7, 0, none⟩) ∧ lk ρ' 13 = .pointer (some ⟨b13, 0, none⟩) ∧ lk ρ' 17 = .pointer (some ⟨b17, 0, none⟩) ∧ lk ρ' 137 = .bool false ∧ Γ' = row b7 [.bool r.h.s, .bool r.h.w.v, .int .u32 (r.h.w.n : Int), .int .u32 (r.h.a.p : Int), .slice r.h.a.A r.h.a.l.length r.h.a.c, .slice r.A r.l.length r.c] 59 :: row b13 [u1, u2] 26 :: row b17 [v1, v2, v3] 45 :: Γ)
  · intro k' tl
    rcases hcase with ⟨hm, rfl, rfl⟩ | ⟨_, rfl, rfl⟩
    · have hel := clB_max hcf hm
      rw [show min tail.length (tail ++ clB cl).length = tail.length by rw [List.length_append]; omega] at hT
      have hbk := back_c (pre := tail) (post := tail) hcf hm
      rw [hT] at hbk
      injection hbk with q1 q2
      injection q2 with q2 q3
      subst q1; subst q2; subst q3
      have hw : IntKind.i64.wrap (((tail ++ clB cl).length : Int) - (tail.length : Int)) = ((clB cl).length : Int) := by rw [List.length_append, i64_in (by omega) (by omega)]; omega
      refine TK.region ?_
      refine m_rrun ?_
      (apply TL.callV; exact rfl; exact callB_of (by kernel_rfl); exact rfl; exact fun _ h => h)
      exact rsame_t C cl _ (cl_own 1 2 3 rfl rfl rfl hg) (Cl.ok_tl (Cl.ok_tl (Cl.ok_tl (Cl.ok_tl (Cl.ok_tl (Cl.ok_tl (Cl.ok_tl hc))))))) hg.small
      rintro _ _ ⟨rfl, rfl⟩
      rw [sameC_val hC]
      refine m_rrun ?_
      refine TL.nil ?_
      refine TK.sub (List.Sublist.cons_cons _ (List.Sublist.cons _ (List.Sublist.cons _ (List.Sublist.cons _ (List.Sublist.cons_cons _ (List.Sublist.cons _ (List.Sublist.cons_cons _ (List.Sublist.refl _)))))))) ?_
      refine TK.perm (List.Perm.trans (List.Perm.swap _ _ _) (List.Perm.cons _ (List.Perm.swap _ _ _))) ?_
      exact tl _ _ ⟨_, _, _, rfl, rfl, rfl, rfl, rfl, congrArg Value.bool (decide_eq_false (by rw [hw]; omega)), rfl⟩
    · refine TK.region ?_
      refine m_rrun ?_
      refine TL.nil ?_
      refine TK.sub (List.Sublist.cons_cons _ (List.Sublist.cons _ (List.Sublist.cons _ (List.Sublist.cons _ (List.Sublist.cons_cons _ (List.Sublist.cons _ (List.Sublist.cons_cons _ (List.Sublist.refl _)))))))) ?_
      refine TK.perm (List.Perm.trans (List.Perm.swap _ _ _) (List.Perm.cons _ (List.Perm.swap _ _ _))) ?_
      exact tl _ _ ⟨_, _, _, rfl, rfl, rfl, rfl, rfl, rfl, rfl⟩
  rintro ρ2 _ ⟨v1, v2, v3, e3, e4, e7, e13, e17, e137, rfl⟩
  refine TK.know6 e3 e4 e7 e13 e17 e137 ?_
  clear hcase hT himp
  refine m_run ?_
  (apply TL.callV; exact rfl; exact callB_of (by kernel_rfl); exact rfl; exact fun _ h => h)
  exact putrule_t A tail.length cA tail r _ (by exact m_hsrc) (Rl.ok_tl (Rl.ok_tl (Rl.ok_tl hr))) hrf hrs (by omega)
  intro v Γ' hput
  obtain ⟨A1, c1, one, e, rfl, hc1, himp, hcase⟩ := hput.any
  refine TL.imp himp ?_
  have hol : one.length ≤ 10000 := by
    rcases hcase with ⟨hm, rfl, _⟩ | ⟨_, rfl, _⟩
    · have := rlB_len hrf hm
      rw [List.length_append]; omega
    · exact Nat.zero_le _
  refine m_run ?_
  (apply TL.buildSlice; exact rfl; exact tb rfl; exact rfl; exact tb rfl; exact rfl; exact rfl; exact rfl; exact rfl; (exact m_lst))
  intro b54
  refine m_run ?_
  (apply TL.appB 0; exact rfl; exact rfl; exact tb rfl; exact rfl; exact tb rfl; exact rfl; exact rfl; exact rfl; exact rfl; exact fun _ h => bs_row (l := []) rfl rfl (by decide) h; exact rfl; (exact m_hsrc))
  · first | omega | (simp; omega)
  · exact fun _ => (rfl : _ = _ :: _)
  intro A2 c2 hc2
  rw [List.nil_append] at hc2 ⊢
  refine m_run ?_
  (apply TL.appB 0; exact rfl; exact rfl; exact tb rfl; exact rfl; exact tb rfl; exact rfl; exact rfl; exact rfl; exact rfl; exact fun _ h => h; exact rfl; (exact m_hsrc))
  · first | omega | (simp only [List.length_append]; omega)
  · exact fun _ => (rfl : _ = _ :: _)
  intro A3 c3 hc3
  refine m_run ?_
  refine TL.know (t := 154) (v := .int .i64 ((min tail.length one.length : Nat) : Int)) (congrArg (Value.int .i64) (by omega)) ?_
  (apply TL.callV; exact rfl; exact callB_of (by kernel_rfl); exact rfl; exact fun _ h => h)
  exact takerule_t A3 (one ++ tail).length c3 (one ++ tail) ((min tail.length one.length : Nat) : Int) _ (has_bs 0 rfl) hc3 (by rw [List.length_append]; omega)
  obtain ⟨⟨x, next, g⟩, hT⟩ : ∃ z, tookR (one ++ tail) ((min tail.length one.length : Nat) : Int) = z := ⟨_, rfl⟩
  rw [hT]
  intro v Γ2 hv
  obtain ⟨C, hC, hg, rfl, rfl⟩ : ∃ C : Rl, rlVal C = x ∧ C.good ∧ v = .tuple #[.agg C.cells.toArray, .int .i64 (next : Int), .int .i64 (g : Int)] ∧ Γ2 = _ := hv
  refine TL.sub (List.Sublist.cons_cons _ (List.Sublist.cons_cons _ (List.Sublist.cons_cons _ (List.Sublist.cons _ (List.Sublist.cons _ (List.Sublist.refl _)))))) ?_
  refine m_rrun ?_
  (apply TL.alloc; exact rfl; exact tb rfl; exact (rfl : _ = [_, _, _, _, _, _]))
  intro b19
  refine TL.imp (Δ := row b19 [.bool false, .bool false, .int .u32 0, .int .u32 0, .slice none 0 0, .slice none 0 0] 59 :: _) (fun _ h => h) ?_
  refine m_rrun ?_
  refine TL.nil ?_
  (repeat (first | refine TK.seq ?_ | refine TK.skip ?_))
  apply TK.cut (fun ρ' Γ' => ∃ w1 w2 w3 w4 w5 w6 : Value, lk ρ' 3 = .slice A tail.length cA ∧ lk ρ' 4 = .slice B raw.length cB ∧ lk ρ' 13 = .pointer (some ⟨b13, 0, none⟩) ∧ lk ρ' 17 = .pointer (some ⟨b17, 0, none⟩) ∧ lk ρ' 19 = .pointer (some ⟨b19, 0, none⟩) ∧ lk ρ' 184 = .bool false ∧ Γ' = row b13 [u1, u2] 26 :: row b17 [v1, v2, v3] 45 :: row b19 [w1, w2, w3, w4, w5, w6] 59 :: Γ)
  · intro k' tl
    rcases hcase with ⟨hm, rfl, rfl⟩ | ⟨_, rfl, rfl⟩
    · have hel := (rlB_max hrf hm).2
      rw [show min tail.length (tail ++ rlB r).length = tail.length by rw [List.length_append]; omega] at hT
      have hbk := back_r (pre := tail) (post := tail) hrf hm
      rw [hT] at hbk
      injection hbk with q1 q2
      injection q2 with q2 q3
      subst q1; subst q2; subst q3
      have hw : IntKind.i64.wrap (((tail ++ rlB r).length : Int) - (tail.length : Int)) = ((rlB r).length : Int) := by rw [List.length_append, i64_in (by omega) (by omega)]; omega
      refine TK.region ?_
      refine m_rrun ?_
      (apply TL.callV; exact rfl; exact callB_of (by kernel_rfl); exact rfl; exact fun _ h => h)
      exact rsameR_t C r _ (rl_own 1 2 3 rfl rfl rfl hg) (Rl.ok_tl (Rl.ok_tl (Rl.ok_tl (Rl.ok_tl (Rl.ok_tl (Rl.ok_tl (Rl.ok_tl hr))))))) hg.small
      rintro _ _ ⟨rfl, rfl⟩
      rw [sameR_val hC]
      refine m_rrun ?_
      refine TL.nil ?_
      refine TK.sub (List.Sublist.cons_cons _ (List.Sublist.cons _ (List.Sublist.cons _ (List.Sublist.cons _ (List.Sublist.cons _ (List.Sublist.cons_cons _ (List.Sublist.cons_cons _ (List.Sublist.refl _)))))))) ?_
      refine TK.perm (List.Perm.trans (List.Perm.swap _ _ _) (List.Perm.cons _ (List.Perm.swap _ _ _))) ?_
      exact tl _ _ ⟨_, _, _, _, _, _, rfl, rfl, rfl, rfl, rfl, congrArg Value.bool (decide_eq_false (by rw [hw]; omega)), rfl⟩
    · refine TK.region ?_
      refine m_rrun ?_
      refine TL.nil ?_
      refine TK.sub (List.Sublist.cons_cons _ (List.Sublist.cons _ (List.Sublist.cons _ (List.Sublist.cons _ (List.Sublist.cons _ (List.Sublist.cons_cons _ (List.Sublist.cons_cons _ (List.Sublist.refl _)))))))) ?_
      refine TK.perm (List.Perm.trans (List.Perm.swap _ _ _) (List.Perm.cons _ (List.Perm.swap _ _ _))) ?_
      exact tl _ _ ⟨_, _, _, _, _, _, rfl, rfl, rfl, rfl, rfl, rfl, rfl⟩
  rintro ρ3 _ ⟨w1, w2, w3, w4, w5, w6, e3, e4, e13, e17, e19, e184, rfl⟩
  refine TK.know6 e3 e4 e13 e17 e19 e184 ?_
  clear hcase hT himp
  refine m_run ?_
  (apply TL.callV; exact rfl; exact callB_of (by kernel_rfl); exact rfl; exact fun _ h => h)
  exact takefact_t B raw.length cB raw 0 _ (by exact m_hsrc) hcB (by omega)
  obtain ⟨⟨x, next, g⟩, hT⟩ : ∃ z, tookF raw 0 = z := ⟨_, rfl⟩
  rw [hT]
  intro v Γ2 hv
  obtain ⟨B1, k1, hk1, rfl, rfl⟩ : ∃ B kk, x.2.length ≤ kk ∧ v = .tuple #[.agg (Fct.cells ⟨x.1, B, kk, x.2⟩).toArray, .int .i64 (next : Int), .int .i64 (g : Int)] ∧ Γ2 = ownU B kk x.2 :: _ := hv
  refine m_rrun ?_
  refine TL.nil ?_
  (repeat (first | refine TK.seq ?_ | refine TK.skip ?_))
  refine TK.region ?_
  refine m_rrun ?_
  refine TL.nil ?_
  (repeat (first | refine TK.seq ?_ | refine TK.skip ?_))
  apply TK.cut (fun ρ' Γ' => ∃ u1 u2 v1 v2 v3 w1 w2 w3 w4 w5 w6 : Value, lk ρ' 4 = .slice B raw.length cB ∧ lk ρ' 13 = .pointer (some ⟨b13, 0, none⟩) ∧ lk ρ' 17 = .pointer (some ⟨b17, 0, none⟩) ∧ lk ρ' 19 = .pointer (some ⟨b19, 0, none⟩) ∧ Γ' = row b13 [u1, u2] 26 :: row b17 [v1, v2, v3] 45 :: row b19 [w1, w2, w3, w4, w5, w6] 59 :: Γ)
  · intro k' tl
    by_cases hg0 : g = 0
    · subst hg0
      obtain ⟨hnl, henc, h6⟩ := got_f hT B1 k1
      have hxf := fit_f hT
      have hel : (fctB ⟨x.1, B1, k1, x.2⟩).length = next := by rw [henc, List.length_take]; omega
      refine m_run ?_
      (apply TL.callV; exact rfl; exact callB_of (by kernel_rfl); exact rfl; exact fun _ h => h)
      exact putfact_t none 0 0 [] ⟨x.1, B1, k1, x.2⟩ _ (has_srcnil _ _) ⟨has_at (up_src _ _ _ _) 0 rfl fun _ h => own_src h, hk1⟩ hxf (show x.2.length ≤ 1000000 by omega) (by decide)
      rw [List.nil_append]
      intro v Γ' hput
      obtain ⟨A4, c4, rfl, hc4, rfl⟩ := hput.got (decide_eq_true h6)
      refine TL.sub (List.Sublist.cons_cons _ (List.Sublist.cons _ (List.Sublist.refl _))) ?_
      refine m_run ?_
      have hs4 := has_imp h2 fun m hm => src_part (i := 0) (j := next) (c := cB) hm (Nat.zero_le _) hnl (by omega)
      have hs5 := has_part (l := raw) (i := 0) hs4 (by omega)
      rw [List.drop_zero] at hs5
      refine TK.drawS mixed rfl ?_
      refine m_take (At.mk : At 0) ?_; refine m_take (At.mk : At 1) ?_; refine m_take (At.mk : At 2) ?_; refine m_take (At.mk : At 3) ?_; refine m_take (At.mk : At 4) ?_; refine m_take (At.mk : At 5) ?_; refine m_take (At.mk : At 6) ?_
      refine TA.isF 204 rfl (decide_eq_false (by omega)) ?_
      refine m_take (At.mk : At 7) ?_; refine m_take (At.mk : At 8) ?_; refine m_take (At.mk : At 9) ?_
      (apply TA.takeY (At.mk : At 10); exact rfl; exact rfl; exact rfl; exact rfl; exact rfl; kernel_rfl; ((focus ((repeat (first | assumption | exact Ent.refl _ | apply Ent.tail)); done))); (apply PV.convBS; exact rfl; exact tb rfl; exact rfl; exact tb rfl; exact rfl; exact tb rfl; exact rfl; (exact m_hsrc)))
      refine m_take (At.mk : At 11) ?_; refine m_take (At.mk : At 12) ?_; refine m_take (At.mk : At 13) ?_
      refine TA.know (t := 211) (v := .int .i64 (next : Int)) (congrArg (Value.int .i64) (by omega)) ?_
      (apply TA.takeY (At.mk : At 14); exact rfl; exact rfl; exact rfl; exact rfl; exact rfl; kernel_rfl; ((focus ((repeat (first | assumption | exact Ent.refl _ | apply Ent.tail)); done))); (apply PV.sliceS (i := 0) (j := next); exact rfl; exact tb rfl; exact rfl; exact tb rfl; exact .none; exact .some rfl; exact Nat.zero_le _; omega))
      (apply TA.takeY (At.mk : At 15); exact rfl; exact rfl; exact rfl; exact rfl; exact rfl; kernel_rfl; ((focus ((repeat (first | assumption | exact Ent.refl _ | apply Ent.tail)); done))); (apply PV.convBS; exact rfl; exact tb rfl; exact rfl; exact tb rfl; exact rfl; exact tb rfl; exact rfl; exact has_tls (has_tls (has_tls (has_tls hs5)))))
      refine m_take (At.mk : At 16) ?_
      refine TA.isF 214 rfl (by rw [decide_eq_true (by rw [henc]; rfl)]; rfl) ?_
      refine m_take (At.mk : At 17) ?_
      refine TA.done (by kernel_rfl) ?_
      refine m_run ?_
      refine TK.drop ?_
      exact tl _ _ ⟨_, _, _, _, _, _, _, _, _, _, _, rfl, rfl, rfl, rfl, rfl⟩
    · refine m_run ?_
      refine TK.drop ?_
      exact tl _ _ ⟨_, _, _, _, _, _, _, _, _, _, _, rfl, rfl, rfl, rfl, rfl⟩
  rintro ρ4 _ ⟨u1, u2, v1, v2, v3, w1, w2, w3, w4, w5, w6, e4, e13, e17, e19, rfl⟩
  refine TK.know4 e4 e13 e17 e19 ?_
  clear hT
  refine m_run ?_
  (apply TL.callV; exact rfl; exact callB_of (by kernel_rfl); exact rfl; exact fun _ h => h)
  exact takeclause_t B raw.length cB raw 0 _ (by exact m_hsrc) hcB (by omega)
  obtain ⟨⟨x, next, g⟩, hT⟩ : ∃ z, tookC raw 0 = z := ⟨_, rfl⟩
  rw [hT]
  intro v Γ2 hv
  obtain ⟨C, hC, hg, rfl, rfl⟩ : ∃ C : Cl, clVal C = x ∧ C.good ∧ v = .tuple #[.agg C.cells.toArray, .int .i64 (next : Int), .int .i64 (g : Int)] ∧ Γ2 = _ := hv
  refine m_rrun ?_
  refine TL.nil ?_
  (repeat (first | refine TK.seq ?_ | refine TK.skip ?_))
  refine TK.region ?_
  refine m_rrun ?_
  refine TL.nil ?_
  (repeat (first | refine TK.seq ?_ | refine TK.skip ?_))
  apply TK.cut (fun ρ' Γ' => ∃ u1 u2 v1 v2 v3 w1 w2 w3 w4 w5 w6 : Value, lk ρ' 4 = .slice B raw.length cB ∧ lk ρ' 13 = .pointer (some ⟨b13, 0, none⟩) ∧ lk ρ' 17 = .pointer (some ⟨b17, 0, none⟩) ∧ lk ρ' 19 = .pointer (some ⟨b19, 0, none⟩) ∧ Γ' = row b13 [u1, u2] 26 :: row b17 [v1, v2, v3] 45 :: row b19 [w1, w2, w3, w4, w5, w6] 59 :: Γ)
  · intro k' tl
    by_cases hg0 : g = 0
    · subst hg0
      obtain ⟨hnl, henc, hmay⟩ := got_c hT hC
      have hel : (clB C).length = next := by rw [henc, List.length_take]; omega
      refine m_run ?_
      (apply TL.callV; exact rfl; exact callB_of (by kernel_rfl); exact rfl; exact fun _ h => h)
      exact putclause_t none 0 0 [] C _ (has_srcnil _ _) (cl_own 0 1 2 rfl rfl rfl hg) hg.fits hg.small (by decide)
      rw [List.nil_append]
      intro v Γ' hput
      obtain ⟨A4, c4, rfl, hc4, rfl⟩ := hput.got hmay
      refine TL.sub (List.Sublist.cons_cons _ (List.Sublist.cons _ (List.Sublist.cons _ (List.Sublist.cons _ (List.Sublist.refl _))))) ?_
      refine m_run ?_
      have hs4 := has_imp h2 fun m hm => src_part (i := 0) (j := next) (c := cB) hm (Nat.zero_le _) hnl (by omega)
      have hs5 := has_part (l := raw) (i := 0) hs4 (by omega)
      rw [List.drop_zero] at hs5
      refine TK.drawS mixed rfl ?_
      refine m_take (At.mk : At 0) ?_; refine m_take (At.mk : At 1) ?_; refine m_take (At.mk : At 2) ?_; refine m_take (At.mk : At 3) ?_; refine m_take (At.mk : At 4) ?_; refine m_take (At.mk : At 5) ?_; refine m_take (At.mk : At 6) ?_
      refine TA.isF 235 rfl (decide_eq_false (by omega)) ?_
      refine m_take (At.mk : At 7) ?_; refine m_take (At.mk : At 8) ?_; refine m_take (At.mk : At 9) ?_
      (apply TA.takeY (At.mk : At 10); exact rfl; exact rfl; exact rfl; exact rfl; exact rfl; kernel_rfl; ((focus ((repeat (first | assumption | exact Ent.refl _ | apply Ent.tail)); done))); (apply PV.convBS; exact rfl; exact tb rfl; exact rfl; exact tb rfl; exact rfl; exact tb rfl; exact rfl; (exact m_hsrc)))
      refine m_take (At.mk : At 11) ?_; refine m_take (At.mk : At 12) ?_; refine m_take (At.mk : At 13) ?_
      refine TA.know (t := 242) (v := .int .i64 (next : Int)) (congrArg (Value.int .i64) (by omega)) ?_
      (apply TA.takeY (At.mk : At 14); exact rfl; exact rfl; exact rfl; exact rfl; exact rfl; kernel_rfl; ((focus ((repeat (first | assumption | exact Ent.refl _ | apply Ent.tail)); done))); (apply PV.sliceS (i := 0) (j := next); exact rfl; exact tb rfl; exact rfl; exact tb rfl; exact .none; exact .some rfl; exact Nat.zero_le _; omega))
      (apply TA.takeY (At.mk : At 15); exact rfl; exact rfl; exact rfl; exact rfl; exact rfl; kernel_rfl; ((focus ((repeat (first | assumption | exact Ent.refl _ | apply Ent.tail)); done))); (apply PV.convBS; exact rfl; exact tb rfl; exact rfl; exact tb rfl; exact rfl; exact tb rfl; exact rfl; exact has_tls (has_tls (has_tls (has_tls hs5)))))
      refine m_take (At.mk : At 16) ?_
      refine TA.isF 245 rfl (by rw [decide_eq_true (by rw [henc]; rfl)]; rfl) ?_
      refine m_take (At.mk : At 17) ?_
      refine TA.done (by kernel_rfl) ?_
      refine m_run ?_
      refine TK.drop ?_
      exact tl _ _ ⟨_, _, _, _, _, _, _, _, _, _, _, rfl, rfl, rfl, rfl, rfl⟩
    · refine m_run ?_
      refine TK.drop ?_
      refine TK.drop ?_
      refine TK.drop ?_
      exact tl _ _ ⟨_, _, _, _, _, _, _, _, _, _, _, rfl, rfl, rfl, rfl, rfl⟩
  rintro ρ5 _ ⟨u1, u2, v1, v2, v3, w1, w2, w3, w4, w5, w6, e4, e13, e17, e19, rfl⟩
  refine TK.know4 e4 e13 e17 e19 ?_
  clear hT
  refine m_run ?_
  (apply TL.callV; exact rfl; exact callB_of (by kernel_rfl); exact rfl; exact fun _ h => h)
  exact takerule_t B raw.length cB raw 0 _ (by exact m_hsrc) hcB (by omega)
  obtain ⟨⟨x, next, g⟩, hT⟩ : ∃ z, tookR raw 0 = z := ⟨_, rfl⟩
  rw [hT]
  intro v Γ2 hv
  obtain ⟨C, hC, hg, rfl, rfl⟩ : ∃ C : Rl, rlVal C = x ∧ C.good ∧ v = .tuple #[.agg C.cells.toArray, .int .i64 (next : Int), .int .i64 (g : Int)] ∧ Γ2 = _ := hv
  refine m_rrun ?_
  refine TL.nil ?_
  (repeat (first | refine TK.seq ?_ | refine TK.skip ?_))
  refine TK.region ?_
  refine m_rrun ?_
  refine TL.nil ?_
  (repeat (first | refine TK.seq ?_ | refine TK.skip ?_))
  apply TK.cut (fun ρ' Γ' => ∃ u1 u2 v1 v2 v3 w1 w2 w3 w4 w5 w6 : Value, lk ρ' 4 = .slice B raw.length cB ∧ lk ρ' 13 = .pointer (some ⟨b13, 0, none⟩) ∧ lk ρ' 17 = .pointer (some ⟨b17, 0, none⟩) ∧ lk ρ' 19 = .pointer (some ⟨b19, 0, none⟩) ∧ Γ' = row b13 [u1, u2] 26 :: row b17 [v1, v2, v3] 45 :: row b19 [w1, w2, w3, w4, w5, w6] 59 :: Γ)
  · intro k' tl
    by_cases hg0 : g = 0
    · subst hg0
      obtain ⟨hnl, henc, hmay⟩ := got_r hT hC
      have hel : (rlB C).length = next := by rw [henc, List.length_take]; omega
      refine m_run ?_
      (apply TL.callV; exact rfl; exact callB_of (by kernel_rfl); exact rfl; exact fun _ h => h)
      exact putrule_t none 0 0 [] C _ (has_srcnil _ _) (rl_own 0 1 2 rfl rfl rfl hg) hg.fits hg.small (by decide)
      rw [List.nil_append]
      intro v Γ' hput
      obtain ⟨A4, c4, rfl, hc4, rfl⟩ := hput.got hmay
      refine TL.sub (List.Sublist.cons_cons _ (List.Sublist.cons _ (List.Sublist.cons _ (List.Sublist.cons _ (List.Sublist.refl _))))) ?_
      refine m_run ?_
      have hs4 := has_imp h2 fun m hm => src_part (i := 0) (j := next) (c := cB) hm (Nat.zero_le _) hnl (by omega)
      have hs5 := has_part (l := raw) (i := 0) hs4 (by omega)
      rw [List.drop_zero] at hs5
      refine TK.drawS mixed rfl ?_
      refine m_take (At.mk : At 0) ?_; refine m_take (At.mk : At 1) ?_; refine m_take (At.mk : At 2) ?_; refine m_take (At.mk : At 3) ?_; refine m_take (At.mk : At 4) ?_; refine m_take (At.mk : At 5) ?_; refine m_take (At.mk : At 6) ?_
      refine TA.isF 266 rfl (decide_eq_false (by omega)) ?_
      refine m_take (At.mk : At 7) ?_; refine m_take (At.mk : At 8) ?_; refine m_take (At.mk : At 9) ?_
      (apply TA.takeY (At.mk : At 10); exact rfl; exact rfl; exact rfl; exact rfl; exact rfl; kernel_rfl; ((focus ((repeat (first | assumption | exact Ent.refl _ | apply Ent.tail)); done))); (apply PV.convBS; exact rfl; exact tb rfl; exact rfl; exact tb rfl; exact rfl; exact tb rfl; exact rfl; (exact m_hsrc)))
      refine m_take (At.mk : At 11) ?_; refine m_take (At.mk : At 12) ?_; refine m_take (At.mk : At 13) ?_
      refine TA.know (t := 273) (v := .int .i64 (next : Int)) (congrArg (Value.int .i64) (by omega)) ?_
      (apply TA.takeY (At.mk : At 14); exact rfl; exact rfl; exact rfl; exact rfl; exact rfl; kernel_rfl; ((focus ((repeat (first | assumption | exact Ent.refl _ | apply Ent.tail)); done))); (apply PV.sliceS (i := 0) (j := next); exact rfl; exact tb rfl; exact rfl; exact tb rfl; exact .none; exact .some rfl; exact Nat.zero_le _; omega))
      (apply TA.takeY (At.mk : At 15); exact rfl; exact rfl; exact rfl; exact rfl; exact rfl; kernel_rfl; ((focus ((repeat (first | assumption | exact Ent.refl _ | apply Ent.tail)); done))); (apply PV.convBS; exact rfl; exact tb rfl; exact rfl; exact tb rfl; exact rfl; exact tb rfl; exact rfl; exact has_tls (has_tls (has_tls (has_tls hs5)))))
      refine m_take (At.mk : At 16) ?_
      refine TA.isF 276 rfl (by rw [decide_eq_true (by rw [henc]; rfl)]; rfl) ?_
      refine m_take (At.mk : At 17) ?_
      refine TA.done (by kernel_rfl) ?_
      refine m_run ?_
      refine TK.drop ?_
      exact tl _ _ ⟨_, _, _, _, _, _, _, _, _, _, _, rfl, rfl, rfl, rfl, rfl⟩
    · refine m_run ?_
      refine TK.drop ?_
      refine TK.drop ?_
      refine TK.drop ?_
      exact tl _ _ ⟨_, _, _, _, _, _, _, _, _, _, _, rfl, rfl, rfl, rfl, rfl⟩
  rintro ρ6 _ ⟨u1, u2, v1, v2, v3, w1, w2, w3, w4, w5, w6, e4, e13, e17, e19, rfl⟩
  refine TK.know4 e4 e13 e17 e19 ?_
  clear hT
  refine m_run ?_
  (apply TL.callV; exact rfl; exact callB_of (by kernel_rfl); exact rfl; exact fun _ h => h)
  exact works6_t _
  rintro _ _ ⟨rfl, rfl⟩
  refine m_run ?_
  (apply TK.retS1; exact rfl; exact rfl; (exact m_val))
  · exact ⟨_, rfl, rfl, rfl⟩
  · (repeat (first | exact List.Sublist.refl _ | apply List.Sublist.cons_cons | apply List.Sublist.cons))
end Go.Proofs.Ytokggdgagfmacaa.E
