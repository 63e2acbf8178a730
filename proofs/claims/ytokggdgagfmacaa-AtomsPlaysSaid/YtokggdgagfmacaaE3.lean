/- AtomsPlays, walked. -/
import Derived.Test.YtokggdgagfmacaaE2
namespace Go.Proofs.Ytokggdgagfmacaa.E
open Go Go.RowKit Go.Proofs
def xr (x : Nat) : Nat := x ^^^ 5
theorem xr_lt {x : Nat} (h : x < 4294967296) : xr x < 4294967296 := Nat.xor_lt_two_pow (n := 32) h (by decide)
theorem xr_xr (x : Nat) : xr (xr x) = x := by unfold xr; rw [Nat.xor_assoc, Nat.xor_self, Nat.xor_zero]
attribute [local irreducible] TK TL TQ TA TB Fn PV
set_option maxRecDepth 100000 in
theorem rsameFact_t (f g : Fct) (Γ : List HP) (hf : f.ok Γ) (hg : g.ok Γ) (hn : f.l.length ≤ 1000000) :
    FnV Try.prog 22 [.agg f.cells.toArray, .agg g.cells.toArray] Γ fun v Γ' => v = .bool (decide (cmpF f g = 0)) ∧ Γ' = Γ := by
  refine Fn.enter Try.func22 rfl rfl rfl fun E => ?_
  refine m_run ?_
  (apply TL.box; exact rfl; exact rfl; (exact m_lst))
  intro b2
  refine m_run ?_
  (apply TL.box; exact rfl; exact rfl; (exact m_lst))
  intro b3
  refine TL.imp (Δ := row b3 g.cells 26 :: row b2 f.cells 26 :: Γ) (fun _ h => h) ?_
  refine m_run ?_
  (apply TL.callV; exact rfl; exact callB_of (by kernel_rfl); exact rfl; exact fun _ h => h)
  exact rcompare_t f g _ (Fct.ok_tl (Fct.ok_tl hf)) (Fct.ok_tl (Fct.ok_tl hg)) hn
  rintro _ _ ⟨rfl, rfl⟩
  refine m_run ?_
  (apply TK.retS1; exact rfl; exact rfl; (exact m_val))
  · exact ⟨_, rfl, congrArg Value.bool (by by_cases h : cmpF f g = 0 <;> simp [h]), rfl⟩
  · (repeat (first | exact List.Sublist.refl _ | apply List.Sublist.cons_cons | apply List.Sublist.cons))
set_option maxRecDepth 100000 in
set_option maxHeartbeats 8000000 in
theorem plays5_t (a : Atm) (f g : Fct) (Γ : List HP) (ha : a.ok Γ) (hf : f.ok Γ) (hg : g.ok Γ) (hb : ∀ t ∈ a.l, t.n < 4294967296) :
    FnV Try.prog 9 [.agg a.cells.toArray, .agg f.cells.toArray, .agg g.cells.toArray] Γ fun v Γ' => v = .bool true ∧ Γ' = Γ := by
  refine Fn.enter Try.func9 rfl rfl rfl fun E => ?_
  obtain ⟨pa, Aa, ca, la⟩ := a
  obtain ⟨p1, A1, c1, l1⟩ := f
  obtain ⟨p2, A2, c2, l2⟩ := g
  replace hb : ∀ t ∈ la, t.n < 4294967296 := hb
  refine m_run ?_
  (apply TL.box; exact rfl; exact rfl; (exact m_lst))
  intro b3
  refine m_run ?_
  (apply TL.box; exact rfl; exact rfl; (exact m_lst))
  intro b4
  refine m_run ?_
  (apply TL.box; exact rfl; exact rfl; (exact m_lst))
  intro b5
  refine TL.imp (Δ := row b5 [.int .u32 (p2 : Int), .slice A2 l2.length c2] 26 :: row b4 [.int .u32 (p1 : Int), .slice A1 l1.length c1] 26 :: row b3 [.int .u32 (pa : Int), .slice Aa la.length ca] 42 :: Γ) (fun _ h => h) ?_
  refine m_run ?_
  (apply TL.callV; exact rfl; exact callB_of (by kernel_rfl); exact rfl; exact fun _ h => h)
  exact rbig_t ⟨pa, Aa, ca, la⟩ _
  rintro _ _ ⟨rfl, rfl⟩
  by_cases n1 : 100 < la.length
  · rw [show decide (100 < (Atm.l ⟨pa, Aa, ca, la⟩).length) = true from decide_eq_true n1]
    refine m_run ?_
    (apply TL.callV; exact rfl; exact callB_of (by kernel_rfl); exact rfl; exact fun _ h => h)
    exact works5_t _
    rintro _ _ ⟨rfl, rfl⟩
    refine m_run ?_
    (apply TK.retS1; exact rfl; exact rfl; (exact m_val))
    · exact ⟨_, rfl, rfl, rfl⟩
    · (repeat (first | exact List.Sublist.refl _ | apply List.Sublist.cons_cons | apply List.Sublist.cons))
  rw [show decide (100 < (Atm.l ⟨pa, Aa, ca, la⟩).length) = false from decide_eq_false n1]
  by_cases n2 : 100 < l1.length
  · refine m_run ?_
    (apply TL.callV; exact rfl; exact callB_of (by kernel_rfl); exact rfl; exact fun _ h => h)
    exact works5_t _
    rintro _ _ ⟨rfl, rfl⟩
    refine m_run ?_
    (apply TK.retS1; exact rfl; exact rfl; (exact m_val))
    · exact ⟨_, rfl, rfl, rfl⟩
    · (repeat (first | exact List.Sublist.refl _ | apply List.Sublist.cons_cons | apply List.Sublist.cons))
  by_cases n3 : 100 < l2.length
  · refine m_run ?_
    (apply TL.callV; exact rfl; exact callB_of (by kernel_rfl); exact rfl; exact fun _ h => h)
    exact works5_t _
    rintro _ _ ⟨rfl, rfl⟩
    refine m_run ?_
    (apply TK.retS1; exact rfl; exact rfl; (exact m_val))
    · exact ⟨_, rfl, rfl, rfl⟩
    · (repeat (first | exact List.Sublist.refl _ | apply List.Sublist.cons_cons | apply List.Sublist.cons))
  refine m_run ?_
  (apply TL.callV; exact rfl; exact callB_of (by kernel_rfl); exact rfl; exact fun _ h => h)
  exact copy_t ⟨pa, Aa, ca, la⟩ _ (Atm.ok_tl (Atm.ok_tl (Atm.ok_tl ha))) (by show la.length ≤ _; omega)
  rintro _ _ ⟨C, kc, hkc, rfl, rfl⟩
  replace hkc : la.length ≤ kc := hkc
  refine m_run ?_
  (apply TL.alloc; exact rfl; exact tb rfl; (exact m_lst))
  intro b7
  refine m_rrun ?_
  refine TL.nil ?_
  (repeat (first | refine TK.seq ?_ | refine TK.skip ?_))
  obtain ⟨Δ, hΔ⟩ : ∃ Δ, row b7 [.int .u32 (pa : Int), .slice C la.length kc] 42 :: own 54 2 (.slice C la.length kc) la.length (tmsC la) :: row b5 [.int .u32 (p2 : Int), .slice A2 l2.length c2] 26 :: row b4 [.int .u32 (p1 : Int), .slice A1 l1.length c1] 26 :: row b3 [.int .u32 (pa : Int), .slice Aa la.length ca] 42 :: Γ = Δ := ⟨_, rfl⟩
  refine TK.imp (Δ := row b7 [.int .u32 (pa : Int), .slice C la.length kc] 42 :: own 54 2 (.slice C la.length kc) la.length (tmsC la) :: row b5 [.int .u32 (p2 : Int), .slice A2 l2.length c2] 26 :: row b4 [.int .u32 (p1 : Int), .slice A1 l1.length c1] 26 :: row b3 [.int .u32 (pa : Int), .slice Aa la.length ca] 42 :: Γ) (fun _ h => h) ?_
  have w7 : has Δ (fun x => cellsAt x b7 0 [.int .u32 (pa : Int), .slice C la.length kc]) := by rw [← hΔ]; exact has_rows 0 rfl rfl
  have w5 : has Δ (fun x => cellsAt x b5 0 [.int .u32 (p2 : Int), .slice A2 l2.length c2]) := by rw [← hΔ]; exact has_rows 2 rfl rfl
  have w4 : has Δ (fun x => cellsAt x b4 0 [.int .u32 (p1 : Int), .slice A1 l1.length c1]) := by rw [← hΔ]; exact has_rows 3 rfl rfl
  have w3 : has Δ (fun x => cellsAt x b3 0 [.int .u32 (pa : Int), .slice Aa la.length ca]) := by rw [← hΔ]; exact has_tlg (has_rows 3 rfl rfl)
  have oΔ : Atm.ok ⟨pa, C, kc, la⟩ Δ := by rw [← hΔ]; exact ⟨has_at (up_src _ _ _ _) 1 rfl fun _ h => own_src h, hkc⟩
  have aΔ : Atm.ok ⟨pa, Aa, ca, la⟩ Δ := by rw [← hΔ]; exact Atm.ok_tl (Atm.ok_tl (Atm.ok_tl (Atm.ok_tl (Atm.ok_tl ha))))
  have fΔ : Fct.ok ⟨p1, A1, c1, l1⟩ Δ := by rw [← hΔ]; exact Fct.ok_tl (Fct.ok_tl (Fct.ok_tl (Fct.ok_tl (Fct.ok_tl hf))))
  have gΔ : Fct.ok ⟨p2, A2, c2, l2⟩ Δ := by rw [← hΔ]; exact Fct.ok_tl (Fct.ok_tl (Fct.ok_tl (Fct.ok_tl (Fct.ok_tl hg))))
  have hsub : Γ.Sublist Δ := by rw [← hΔ]; (repeat (first | exact List.Sublist.refl _ | apply List.Sublist.cons_cons | apply List.Sublist.cons))
  rw [hΔ]
  clear hΔ
  refine TK.drawS mixed rfl ?_
  refine m_take (At.mk : At 0) ?_; refine m_take (At.mk : At 2) ?_
  (apply TA.one 1; kernel_rfl; exact rfl)
  (apply TL.callV; exact rfl; exact callB_of (by kernel_rfl); exact rfl; exact fun _ h => h)
  exact ground_t ⟨pa, C, kc, la⟩ _ oΔ (by show la.length ≤ _; omega)
  rintro _ Δ ⟨rfl, rfl⟩
  refine TL.back (by (focus ((repeat (first | assumption | exact Ent.refl _ | apply Ent.tail)); done))) ?_
  (apply TA.one 3; kernel_rfl; exact rfl)
  (apply TL.callV; exact rfl; exact callB_of (by kernel_rfl); exact rfl; exact fun _ h => h)
  exact rground_t ⟨pa, Aa, ca, la⟩ _ aΔ (by show la.length ≤ _; omega)
  rintro _ Δ ⟨rfl, rfl⟩
  refine TL.back (by (focus ((repeat (first | assumption | exact Ent.refl _ | apply Ent.tail)); done))) ?_
  refine m_take (At.mk : At 4) ?_
  refine TA.isF 36 rfl (by simp) ?_
  refine m_take (At.mk : At 5) ?_; refine m_take (At.mk : At 6) ?_; refine m_take (At.mk : At 8) ?_
  (apply TA.one 7; kernel_rfl; exact rfl)
  refine m_rrun ?_
  (apply TL.callV; exact rfl; exact callB_of (by kernel_rfl); exact rfl; exact fun _ h => h)
  exact varsG_t ⟨pa, C, kc, la⟩ _ oΔ (by show la.length ≤ _; omega)
  rintro _ _ ⟨D1, V1, k1, hD1, hS1, hk1, rfl, rfl⟩
  refine TL.back (by (focus ((repeat (first | assumption | exact Ent.refl _ | apply Ent.tail)); done))) ?_
  (apply TA.one 9; kernel_rfl; exact rfl)
  refine m_rrun ?_
  (apply TL.callV; exact rfl; exact callB_of (by kernel_rfl); exact rfl; exact fun _ h => h)
  exact rvars_t ⟨pa, Aa, ca, la⟩ _ (Atm.ok_tl aΔ) (by show la.length ≤ _; omega)
  rintro _ _ ⟨D2, V2, k2, hS2, hm2, hk2, rfl, rfl⟩
  replace hD1 : D1.Perm (varsOf la) := hD1
  replace hm2 : ∀ x, x ∈ D2 ↔ x ∈ varsOf la := hm2
  have hV : compL D1 = D2 := strict_unique (compL_strict hS1) hS2 fun x => by rw [compL_mem, hD1.mem_iff, hm2]
  have hVl : (compL D1).length ≤ 100 := by
    have h1 := compL_len D1
    have h2 := hD1.length_eq
    have h3 := varsOf_len la
    omega
  rw [hV] at hk1 hVl ⊢
  refine TL.back (by (focus ((repeat (first | assumption | exact Ent.refl _ | apply Ent.tail)); done))) ?_
  (apply TA.one 10; kernel_rfl; exact rfl)
  refine m_rrun ?_
  (apply TL.callV; exact rfl; exact callB_of (by kernel_rfl); exact rfl; exact fun _ h => h)
  exact numbers_t V1 V2 k1 k2 D2 D2 _ (has_at (up_src _ _ _ _) 1 rfl fun _ h => own_src h) (has_at (up_src _ _ _ _) 0 rfl fun _ h => own_src h) (by omega)
  rintro _ _ ⟨rfl, rfl⟩
  rw [show decide (D2 = D2) = true from decide_eq_true rfl]
  refine TL.sub (Δ := Δ) (.cons _ (.cons _ (List.Sublist.refl _))) ?_
  refine TL.back (by (focus ((repeat (first | assumption | exact Ent.refl _ | apply Ent.tail)); done))) ?_
  refine m_take (At.mk : At 11) ?_
  refine TA.isF 43 rfl rfl ?_
  refine m_take (At.mk : At 12) ?_; refine m_take (At.mk : At 13) ?_; refine m_take (At.mk : At 14) ?_; refine m_take (At.mk : At 15) ?_; refine m_take (At.mk : At 17) ?_; refine m_take (At.mk : At 18) ?_
  (apply TA.one 16; kernel_rfl; exact rfl)
  refine m_rrun ?_
  (apply TL.callV; exact rfl; exact callB_of (by kernel_rfl); exact rfl; exact fun _ h => h)
  exact matchG_t ⟨pa, C, kc, la⟩ ⟨p1, A1, c1, l1⟩ _ oΔ fΔ (by show la.length ≤ _; omega)
  rintro _ Δ ⟨rfl, rfl⟩
  refine TL.back (by (focus ((repeat (first | assumption | exact Ent.refl _ | apply Ent.tail)); done))) ?_
  (apply TA.one 19; kernel_rfl; exact rfl)
  refine m_rrun ?_
  (apply TL.callV; exact rfl; exact callB_of (by kernel_rfl); exact rfl; exact fun _ h => h)
  exact rmatch_t ⟨pa, Aa, ca, la⟩ ⟨p1, A1, c1, l1⟩ _ aΔ fΔ (by show la.length ≤ _; omega)
  rintro _ Δ ⟨rfl, rfl⟩
  refine TL.back (by (focus ((repeat (first | assumption | exact Ent.refl _ | apply Ent.tail)); done))) ?_
  refine m_take (At.mk : At 20) ?_
  refine TA.isF 52 rfl (by show (matA ⟨pa, C, kc, la⟩ ⟨p1, A1, c1, l1⟩ != matA ⟨pa, C, kc, la⟩ ⟨p1, A1, c1, l1⟩) = false; simp) ?_
  refine m_take (At.mk : At 21) ?_; refine m_take (At.mk : At 22) ?_; refine m_take (At.mk : At 23) ?_; refine m_take (At.mk : At 24) ?_; refine m_take (At.mk : At 26) ?_; refine m_take (At.mk : At 27) ?_
  (apply TA.one 25; kernel_rfl; exact rfl)
  refine m_rrun ?_
  (apply TL.callV; exact rfl; exact callB_of (by kernel_rfl); exact rfl; exact fun _ h => h)
  exact compare_t ⟨p1, A1, c1, l1⟩ ⟨p2, A2, c2, l2⟩ _ fΔ gΔ (by show l1.length ≤ _; omega)
  rintro _ Δ ⟨rfl, rfl⟩
  refine TL.back (by (focus ((repeat (first | assumption | exact Ent.refl _ | apply Ent.tail)); done))) ?_
  (apply TA.one 28; kernel_rfl; exact rfl)
  refine m_rrun ?_
  (apply TL.callV; exact rfl; exact callB_of (by kernel_rfl); exact rfl; exact fun _ h => h)
  exact rcompare_t ⟨p1, A1, c1, l1⟩ ⟨p2, A2, c2, l2⟩ _ fΔ gΔ (by show l1.length ≤ _; omega)
  rintro _ Δ ⟨rfl, rfl⟩
  refine TL.back (by (focus ((repeat (first | assumption | exact Ent.refl _ | apply Ent.tail)); done))) ?_
  refine m_take (At.mk : At 29) ?_
  refine TA.isF 61 rfl (by simp) ?_
  refine m_take (At.mk : At 30) ?_
  refine TA.done (by kernel_rfl) ?_
  refine TK.cond_false rfl ?_
  (repeat (first | refine TK.seq ?_ | refine TK.skip ?_))
  obtain ⟨hp, hhp⟩ : ∃ hp, (if groundA la then pa else 0) = hp := ⟨_, rfl⟩
  obtain ⟨H, hH⟩ : ∃ H, (if groundA la then la.map (·.n) else []) = H := ⟨_, rfl⟩
  have hHl : H.length ≤ 100 := by
    rw [← hH]
    split
    · rw [List.length_map]; omega
    · exact Nat.zero_le _
  have hHb : ∀ x ∈ H, x < 4294967296 := by
    rw [← hH]
    split
    · intro x hx
      obtain ⟨t, ht, rfl⟩ := List.mem_map.1 hx
      exact hb t ht
    · intro x hx; cases hx
  apply TK.cut (fun ρ' Γ' => ∃ (b8 : Nat) (B8 : Option Addr) (k8 : Nat), H.length ≤ k8 ∧ lk ρ' 3 = .pointer (some ⟨b3, 0, none⟩) ∧ lk ρ' 4 = .pointer (some ⟨b4, 0, none⟩) ∧ lk ρ' 7 = .pointer (some ⟨b7, 0, none⟩) ∧ lk ρ' 8 = .pointer (some ⟨b8, 0, none⟩) ∧ lk ρ' 9 = .bool (groundA la) ∧ Γ' = row b8 [.int .u32 (hp : Int), .slice B8 H.length k8] 26 :: own 23 1 (.slice B8 H.length k8) H.length (u32s H) :: Δ)
  · intro k' hk'
    refine m_run ?_
    (apply TL.callV; exact rfl; exact callB_of (by kernel_rfl); exact rfl; exact fun _ h => h)
    exact of_t ⟨pa, C, kc, la⟩ _ oΔ (by show la.length ≤ _; omega)
    rintro _ _ (⟨hgr, B8, k8, hk8, rfl, rfl⟩ | ⟨hgr, rfl, hΓ⟩)
    · replace hgr : groundA la = true := hgr
      rw [hgr] at hH hhp hk'
      have hml : (la.map (·.n)).length = la.length := List.length_map ..
      refine m_rrun ?_
      (apply TL.alloc; exact rfl; exact tb rfl; (exact m_lst))
      intro b8
      refine m_rrun ?_
      refine TL.nil ?_
      refine TK.imp (Δ := row b8 [.int .u32 (hp : Int), .slice B8 H.length k8] 26 :: own 23 1 (.slice B8 H.length k8) H.length (u32s H) :: Δ) (fun m h => by
        simp only [if_true] at hH hhp
        rw [← hH, ← hhp]
        have h2 : all (row b8 [.int .u32 (pa : Int), .slice B8 (la.map (·.n)).length k8] 26 :: own 23 1 (.slice B8 la.length k8) la.length (u32s (la.map (·.n))) :: Δ) m := h
        simp only [hml] at h2 ⊢
        exact h2) ?_
      exact hk' _ _ ⟨b8, B8, k8, by rw [← hH, if_pos rfl, hml]; exact hk8, rfl, rfl, rfl, rfl, rfl, rfl⟩
    · replace hgr : groundA la = false := hgr
      rw [hgr] at hH hhp hk'
      subst hΓ
      refine m_rrun ?_
      (apply TL.alloc; exact rfl; exact tb rfl; (exact m_lst))
      intro b8
      refine m_rrun ?_
      refine TL.nil ?_
      refine TK.free (H := own 23 1 (.slice none 0 0) 0 []) (fun m h => own_nil _ _ h) ?_
      refine TK.perm (List.Perm.swap _ _ _) ?_
      simp only [Bool.false_eq_true, if_false] at hH hhp
      subst hH; subst hhp
      exact hk' _ _ ⟨b8, none, 0, Nat.le_refl _, rfl, rfl, rfl, rfl, rfl, rfl⟩
  rintro ρ' _ ⟨b8, B8, k8, hk8, e3, e4, e7, e8, e9, rfl⟩
  refine TK.know5 e3 e4 e7 e8 e9 ?_
  (repeat (first | refine TK.seq ?_ | refine TK.skip ?_))
  apply TK.cut (fun ρ' Γ' => ∃ (b10 : Nat) (B10 : Option Addr) (k10 : Nat), H.length ≤ k10 ∧ lk ρ' 3 = .pointer (some ⟨b3, 0, none⟩) ∧ lk ρ' 4 = .pointer (some ⟨b4, 0, none⟩) ∧ lk ρ' 7 = .pointer (some ⟨b7, 0, none⟩) ∧ lk ρ' 8 = .pointer (some ⟨b8, 0, none⟩) ∧ lk ρ' 9 = .bool (groundA la) ∧ lk ρ' 10 = .pointer (some ⟨b10, 0, none⟩) ∧ lk ρ' 11 = .bool (groundA la) ∧ Γ' = row b10 [.int .u32 (hp : Int), .slice B10 H.length k10] 26 :: own 23 1 (.slice B10 H.length k10) H.length (u32s H) :: row b8 [.int .u32 (hp : Int), .slice B8 H.length k8] 26 :: own 23 1 (.slice B8 H.length k8) H.length (u32s H) :: Δ)
  · intro k' hk'
    refine m_run ?_
    (apply TL.callV; exact rfl; exact callB_of (by kernel_rfl); exact rfl; exact fun _ h => h)
    exact rof_t ⟨pa, Aa, ca, la⟩ _ (Atm.ok_tl (Atm.ok_tl aΔ)) (by show la.length ≤ _; omega)
    rintro _ _ (⟨hgr, B10, k10, hk10, rfl, rfl⟩ | ⟨hgr, rfl, hΓ⟩)
    · replace hgr : groundA la = true := hgr
      rw [hgr] at hH hhp hk'
      have hml : (la.map (·.n)).length = la.length := List.length_map ..
      refine m_rrun ?_
      (apply TL.alloc; exact rfl; exact tb rfl; (exact m_lst))
      intro b10
      refine m_rrun ?_
      refine TL.nil ?_
      refine TK.imp (Δ := row b10 [.int .u32 (hp : Int), .slice B10 H.length k10] 26 :: own 23 1 (.slice B10 H.length k10) H.length (u32s H) :: row b8 [.int .u32 (hp : Int), .slice B8 H.length k8] 26 :: own 23 1 (.slice B8 H.length k8) H.length (u32s H) :: Δ) (fun m h => by
        simp only [if_true] at hH hhp
        have h2 : all (row b10 [.int .u32 (pa : Int), .slice B10 (la.map (·.n)).length k10] 26 :: own 23 1 (.slice B10 la.length k10) la.length (u32s (la.map (·.n))) :: row b8 [.int .u32 (hp : Int), .slice B8 H.length k8] 26 :: own 23 1 (.slice B8 H.length k8) H.length (u32s H) :: Δ) m := h
        rw [← hH, ← hhp] at h2 ⊢
        simp only [hml] at h2 ⊢
        exact h2) ?_
      exact hk' _ _ ⟨b10, B10, k10, by rw [← hH, if_pos rfl, hml]; exact hk10, rfl, rfl, rfl, rfl, congrArg Value.bool hgr, rfl, rfl, rfl⟩
    · replace hgr : groundA la = false := hgr
      rw [hgr] at hH hhp hk'
      rw [hΓ]
      refine m_rrun ?_
      (apply TL.alloc; exact rfl; exact tb rfl; (exact m_lst))
      intro b10
      refine m_rrun ?_
      refine TL.nil ?_
      refine TK.free (H := own 23 1 (.slice none 0 0) 0 []) (fun m h => own_nil _ _ h) ?_
      refine TK.perm (List.Perm.swap _ _ _) ?_
      simp only [Bool.false_eq_true, if_false] at hH hhp
      subst hH; subst hhp
      exact hk' _ _ ⟨b10, none, 0, Nat.le_refl _, rfl, rfl, rfl, rfl, congrArg Value.bool hgr, rfl, rfl, rfl⟩
  rintro ρ' _ ⟨b10, B10, k10, hk10, e3, e4, e7, e8, e9, e10, e11, rfl⟩
  refine TK.know7 e3 e4 e7 e8 e9 e10 e11 ?_
  refine m_run ?_
  (apply TL.callV; exact rfl; exact callB_of (by kernel_rfl); exact rfl; exact fun _ h => h)
  exact lift_t ⟨p1, A1, c1, l1⟩ _ (Fct.ok_tl (Fct.ok_tl (Fct.ok_tl (Fct.ok_tl fΔ)))) (by show l1.length ≤ _; omega)
  rintro _ _ ⟨G, kg, hkg, rfl, rfl⟩
  replace hkg : l1.length ≤ kg := hkg
  have hml1 := lift_len l1
  refine m_run ?_
  (apply TL.alloc; exact rfl; exact tb rfl; (exact m_lst))
  intro b12
  refine m_run ?_
  refine TK.imp (Δ := row b12 [.int .u32 (p1 : Int), .slice G (liftT l1).length kg] 42 :: own 54 2 (.slice G l1.length kg) l1.length (tmsC (liftT l1)) :: row b10 [.int .u32 (hp : Int), .slice B10 H.length k10] 26 :: own 23 1 (.slice B10 H.length k10) H.length (u32s H) :: row b8 [.int .u32 (hp : Int), .slice B8 H.length k8] 26 :: own 23 1 (.slice B8 H.length k8) H.length (u32s H) :: Δ) (fun _ h => h) ?_
  obtain ⟨Ω, hΩ⟩ : ∃ Ω, row b12 [.int .u32 (p1 : Int), .slice G (liftT l1).length kg] 42 :: own 54 2 (.slice G l1.length kg) l1.length (tmsC (liftT l1)) :: row b10 [.int .u32 (hp : Int), .slice B10 H.length k10] 26 :: own 23 1 (.slice B10 H.length k10) H.length (u32s H) :: Δ = Ω := ⟨_, rfl⟩
  refine TK.perm (Δ := own 23 1 (.slice B8 H.length k8) H.length (u32s H) :: row b8 [.int .u32 (hp : Int), .slice B8 H.length k8] 26 :: Ω) (by
    rw [← hΩ]
    exact ((List.perm_append_comm (l₁ := [_, _, _, _]) (l₂ := [_, _])).append_right Δ).trans (List.Perm.swap _ _ _)) ?_
  have y12 : has Ω (fun x => cellsAt x b12 0 [.int .u32 (p1 : Int), .slice G (liftT l1).length kg]) := by rw [← hΩ]; exact has_rows 0 rfl rfl
  have y10 : has Ω (fun x => cellsAt x b10 0 [.int .u32 (hp : Int), .slice B10 H.length k10]) := by rw [← hΩ]; exact has_rows 2 rfl rfl
  have y7 : has Ω (fun x => cellsAt x b7 0 [.int .u32 (pa : Int), .slice C la.length kc]) := by rw [← hΩ]; exact has_tlg (has_tlg (has_tlg (has_tlg w7)))
  have y4 : has Ω (fun x => cellsAt x b4 0 [.int .u32 (p1 : Int), .slice A1 l1.length c1]) := by rw [← hΩ]; exact has_tlg (has_tlg (has_tlg (has_tlg w4)))
  have y3 : has Ω (fun x => cellsAt x b3 0 [.int .u32 (pa : Int), .slice Aa la.length ca]) := by rw [← hΩ]; exact has_tlg (has_tlg (has_tlg (has_tlg w3)))
  have o12 : Atm.ok ⟨p1, G, kg, liftT l1⟩ Ω := by rw [← hΩ]; exact ⟨by show has _ (srcAt 2 G (liftT l1).length (tmsC (liftT l1))); rw [hml1]; exact has_at (up_src _ _ _ _) 1 rfl fun _ h => own_src h, by show (liftT l1).length ≤ kg; omega⟩
  have o10 : Fct.ok ⟨hp, B10, k10, H⟩ Ω := by rw [← hΩ]; exact ⟨has_at (up_src _ _ _ _) 3 rfl fun _ h => own_src h, hk10⟩
  have o7 : Atm.ok ⟨pa, C, kc, la⟩ Ω := by rw [← hΩ]; exact Atm.ok_tl (Atm.ok_tl (Atm.ok_tl (Atm.ok_tl oΔ)))
  have o4 : Fct.ok ⟨p1, A1, c1, l1⟩ Ω := by rw [← hΩ]; exact Fct.ok_tl (Fct.ok_tl (Fct.ok_tl (Fct.ok_tl fΔ)))
  have o3 : Atm.ok ⟨pa, Aa, ca, la⟩ Ω := by rw [← hΩ]; exact Atm.ok_tl (Atm.ok_tl (Atm.ok_tl (Atm.ok_tl aΔ)))
  have hsub2 : Γ.Sublist Ω := by rw [← hΩ]; exact .cons _ (.cons _ (.cons _ (.cons _ hsub)))
  clear hΩ w7 w5 w4 w3 oΔ aΔ fΔ gΔ hsub
  have hSL : H.length = H.length := rfl
  have hSB := hHb
  apply TK.iter (fun j ρ' Γ' => ∃ (i : Nat), i + j = H.length ∧ lk ρ' 3 = .pointer (some ⟨b3, 0, none⟩) ∧ lk ρ' 4 = .pointer (some ⟨b4, 0, none⟩) ∧ lk ρ' 7 = .pointer (some ⟨b7, 0, none⟩) ∧ lk ρ' 8 = .pointer (some ⟨b8, 0, none⟩) ∧ lk ρ' 9 = .bool (groundA la) ∧ lk ρ' 10 = .pointer (some ⟨b10, 0, none⟩) ∧ lk ρ' 11 = .bool (groundA la) ∧ lk ρ' 12 = .pointer (some ⟨b12, 0, none⟩) ∧ lk ρ' 13 = .int .i64 (i : Int) ∧ Γ' = own 23 1 (.slice B8 H.length k8) H.length (u32s (((H).take i).map xr ++ (H).drop i)) :: row b8 [.int .u32 (hp : Int), .slice B8 H.length k8] 26 :: Ω) H.length
  · exact ⟨0, Nat.zero_add _, rfl, rfl, rfl, rfl, rfl, rfl, rfl, rfl, rfl, rfl⟩
  rintro j IH ρ' _ ⟨i, hij, e3, e4, e7, e8, e9, e10, e11, e12, ev, rfl⟩
  refine TK.know9 e3 e4 e7 e8 e9 e10 e11 e12 ev ?_
  by_cases hi : i < H.length
  · obtain ⟨x, hx⟩ : ∃ x, (H)[i]? = some x := ⟨(H)[i]'(by rw [hSL]; exact hi), List.getElem?_eq_getElem _⟩
    have hx32 : x < 4294967296 := hSB x (List.mem_of_getElem? hx)
    have hxi := (map_take_at xr (H) (i := i)).trans hx
    have hstep := map_take_step xr (H) hx
    refine TK.mem fun m0 hm0 => ?_
    obtain ⟨bh, rfl⟩ := own_addr hm0 (by omega)
    clear hm0 m0
    have hxor : bitsOf .xor .u32 (x : Int) 5 = ((xr x : Nat) : Int) := bits_xor rfl hx32 (by decide)
    have hcx : has (own 23 1 (.slice (some ⟨bh, 0, none⟩) H.length k8) H.length (u32s (((H).take i).map xr ++ (H).drop i)) :: row b8 [.int .u32 (hp : Int), .slice (some ⟨bh, 0, none⟩) H.length k8] 26 :: Ω) (fun z => cellAt z bh i (.int .u32 (x : Int))) := ownU_cell hxi
    refine m_run ?_
    refine TK.drawB mixed rfl 10 (own 23 1 (.slice (some ⟨bh, 0, none⟩) H.length k8) H.length (u32s (((H).take i).map xr ++ (H).drop i)) :: row b8 [.int .u32 (hp : Int), .slice (some ⟨bh, 0, none⟩) H.length k8] 26 :: Ω) (row b8 [.int .u32 (hp : Int), .slice (some ⟨bh, 0, none⟩) H.length k8] 26 :: Ω) ?_
    refine m_bake (At.mk : At 0) ?_; refine m_bake (At.mk : At 1) ?_; refine m_bake (At.mk : At 2) ?_; refine m_bake (At.mk : At 3) ?_; refine m_bake (At.mk : At 4) ?_; refine m_bake (At.mk : At 5) ?_; refine m_bake (At.mk : At 6) ?_; refine m_bake (At.mk : At 7) ?_
    (apply TB.takeA (At.mk : At 8); exact rfl; exact rfl; kernel_rfl; exact rfl; ((focus ((repeat (first | assumption | exact Ent.refl _ | apply Ent.tail)); done))); (apply PV.bits; exact rfl; exact rfl; exact rfl))
    refine TB.know (t := 90) (v := .int .u32 ((xr x : Nat) : Int)) (congrArg (Value.int .u32) hxor) ?_
    refine m_bake (At.mk : At 9) ?_
    (apply TB.last; kernel_rfl; exact rfl)
    (apply TL.storeOwn 0 i; exact rfl; exact rfl; exact rfl; exact rfl; exact tb rfl; exact rfl; exact (Nat.zero_add _).symm; exact hi)
    refine TL.back (by (focus ((repeat (first | assumption | exact Ent.refl _ | apply Ent.tail)); done))) ?_
    refine TA.done (by kernel_rfl) ?_
    refine TK.imp (Δ := own 23 1 (.slice (some ⟨bh, 0, none⟩) H.length k8) H.length (u32s (((H).take (i + 1)).map xr ++ (H).drop (i + 1))) :: row b8 [.int .u32 (hp : Int), .slice (some ⟨bh, 0, none⟩) H.length k8] 26 :: Ω) (fun _ h => by rw [← hstep, ← u32s_set]; exact h) ?_
    refine m_run ?_
    exact IH (j - 1) _ _ (by omega) ⟨i + 1, by omega, rfl, rfl, rfl, rfl, rfl, rfl, rfl, rfl, congrArg (Value.int .i64) (i64_succ i (by omega)), rfl⟩
  obtain rfl : i = H.length := by omega
  rw [show ((H).take H.length).map xr ++ (H).drop H.length = (H).map xr by rw [← hSL, List.take_length, List.drop_length, List.append_nil]]
  clear IH hSL hSB
  refine m_run ?_
  refine TK.drawS mixed rfl ?_
  refine m_take (At.mk : At 0) ?_; refine m_take (At.mk : At 1) ?_
  (apply TA.one 2; kernel_rfl; exact rfl)
  (apply TL.callV; exact rfl; exact callB_of (by kernel_rfl); exact rfl; exact fun _ h => h)
  exact rsameAtom_t ⟨pa, C, kc, la⟩ ⟨pa, Aa, ca, la⟩ _ (Atm.ok_tl (Atm.ok_tl o7)) (Atm.ok_tl (Atm.ok_tl o3)) (by show la.length ≤ _; omega)
  rintro _ _ ⟨rfl, rfl⟩
  rw [show sameA ⟨pa, C, kc, la⟩ ⟨pa, Aa, ca, la⟩ = true by simp [sameA]]
  refine TL.back (by (focus ((repeat (first | assumption | exact Ent.refl _ | apply Ent.tail)); done))) ?_
  refine m_take (At.mk : At 3) ?_
  refine TA.isF 95 rfl rfl ?_
  refine m_take (At.mk : At 4) ?_; refine m_take (At.mk : At 5) ?_; refine m_take (At.mk : At 6) ?_; refine m_take (At.mk : At 7) ?_
  refine TA.isF 99 rfl (by simp) ?_
  refine m_take (At.mk : At 8) ?_; refine m_take (At.mk : At 9) ?_; refine m_take (At.mk : At 10) ?_; refine m_take (At.mk : At 11) ?_
  (apply TA.one 12; kernel_rfl; exact rfl)
  refine m_rrun ?_
  (apply TL.callV; exact rfl; exact callB_of (by kernel_rfl); exact rfl; exact fun _ h => h)
  exact rlift_t ⟨p1, A1, c1, l1⟩ _ (Fct.ok_tl (Fct.ok_tl o4)) (by show l1.length ≤ _; omega)
  rintro _ _ ⟨G2, kg2, hkg2, rfl, rfl⟩
  replace hkg2 : l1.length ≤ kg2 := hkg2
  refine TL.back (by (focus ((repeat (first | assumption | exact Ent.refl _ | apply Ent.tail)); done))) ?_
  (apply TA.one 13; kernel_rfl; exact rfl)
  refine m_rrun ?_
  (apply TL.callV; exact rfl; exact callB_of (by kernel_rfl); exact rfl; exact fun _ h => h)
  exact rsameAtom_t ⟨p1, G, kg, liftT l1⟩ ⟨p1, G2, kg2, liftT l1⟩ _ (Atm.ok_tl (Atm.ok_tl (Atm.ok_tl o12))) ⟨by show has _ (srcAt 2 G2 (liftT l1).length (tmsC (liftT l1))); rw [hml1]; exact has_at (up_src _ _ _ _) 0 rfl fun _ h => own_src h, by show (liftT l1).length ≤ kg2; omega⟩ (by show (liftT l1).length ≤ _; omega)
  rintro _ _ ⟨rfl, rfl⟩
  rw [show sameA ⟨p1, G, kg, liftT l1⟩ ⟨p1, G2, kg2, liftT l1⟩ = true by simp [sameA]]
  refine TL.sub (List.sublist_cons_self _ _) ?_
  refine TL.back (by (focus ((repeat (first | assumption | exact Ent.refl _ | apply Ent.tail)); done))) ?_
  refine m_take (At.mk : At 14) ?_
  refine TA.isF 106 rfl rfl ?_
  refine m_take (At.mk : At 15) ?_
  refine TA.done (by kernel_rfl) ?_
  refine m_run ?_
  have hSL : (H.map xr).length = H.length := List.length_map ..
  have hSB : ∀ x ∈ H.map xr, x < 4294967296 := fun x hx => by
    obtain ⟨y, hy, rfl⟩ := List.mem_map.1 hx
    exact xr_lt (hHb y hy)
  apply TK.iter (fun j ρ' Γ' => ∃ (i : Nat), i + j = H.length ∧ lk ρ' 8 = .pointer (some ⟨b8, 0, none⟩) ∧ lk ρ' 10 = .pointer (some ⟨b10, 0, none⟩) ∧ lk ρ' 14 = .int .i64 (i : Int) ∧ Γ' = own 23 1 (.slice B8 H.length k8) H.length (u32s (((H.map xr).take i).map xr ++ (H.map xr).drop i)) :: row b8 [.int .u32 (hp : Int), .slice B8 H.length k8] 26 :: Ω) H.length
  · exact ⟨0, Nat.zero_add _, rfl, rfl, rfl, rfl⟩
  rintro j IH ρ' _ ⟨i, hij, e8, e10, ev, rfl⟩
  refine TK.know3 e8 e10 ev ?_
  by_cases hi : i < H.length
  · obtain ⟨x, hx⟩ : ∃ x, (H.map xr)[i]? = some x := ⟨(H.map xr)[i]'(by rw [hSL]; exact hi), List.getElem?_eq_getElem _⟩
    have hx32 : x < 4294967296 := hSB x (List.mem_of_getElem? hx)
    have hxi := (map_take_at xr (H.map xr) (i := i)).trans hx
    have hstep := map_take_step xr (H.map xr) hx
    refine TK.mem fun m0 hm0 => ?_
    obtain ⟨bh, rfl⟩ := own_addr hm0 (by omega)
    clear hm0 m0
    have hxor : bitsOf .xor .u32 (x : Int) 5 = ((xr x : Nat) : Int) := bits_xor rfl hx32 (by decide)
    have hcx : has (own 23 1 (.slice (some ⟨bh, 0, none⟩) H.length k8) H.length (u32s (((H.map xr).take i).map xr ++ (H.map xr).drop i)) :: row b8 [.int .u32 (hp : Int), .slice (some ⟨bh, 0, none⟩) H.length k8] 26 :: Ω) (fun z => cellAt z bh i (.int .u32 (x : Int))) := ownU_cell hxi
    refine m_run ?_
    refine TK.drawB mixed rfl 10 (own 23 1 (.slice (some ⟨bh, 0, none⟩) H.length k8) H.length (u32s (((H.map xr).take i).map xr ++ (H.map xr).drop i)) :: row b8 [.int .u32 (hp : Int), .slice (some ⟨bh, 0, none⟩) H.length k8] 26 :: Ω) (row b8 [.int .u32 (hp : Int), .slice (some ⟨bh, 0, none⟩) H.length k8] 26 :: Ω) ?_
    refine m_bake (At.mk : At 0) ?_; refine m_bake (At.mk : At 1) ?_; refine m_bake (At.mk : At 2) ?_; refine m_bake (At.mk : At 3) ?_; refine m_bake (At.mk : At 4) ?_; refine m_bake (At.mk : At 5) ?_; refine m_bake (At.mk : At 6) ?_; refine m_bake (At.mk : At 7) ?_
    (apply TB.takeA (At.mk : At 8); exact rfl; exact rfl; kernel_rfl; exact rfl; ((focus ((repeat (first | assumption | exact Ent.refl _ | apply Ent.tail)); done))); (apply PV.bits; exact rfl; exact rfl; exact rfl))
    refine TB.know (t := 123) (v := .int .u32 ((xr x : Nat) : Int)) (congrArg (Value.int .u32) hxor) ?_
    refine m_bake (At.mk : At 9) ?_
    (apply TB.last; kernel_rfl; exact rfl)
    (apply TL.storeOwn 0 i; exact rfl; exact rfl; exact rfl; exact rfl; exact tb rfl; exact rfl; exact (Nat.zero_add _).symm; exact hi)
    refine TL.back (by (focus ((repeat (first | assumption | exact Ent.refl _ | apply Ent.tail)); done))) ?_
    refine TA.done (by kernel_rfl) ?_
    refine TK.imp (Δ := own 23 1 (.slice (some ⟨bh, 0, none⟩) H.length k8) H.length (u32s (((H.map xr).take (i + 1)).map xr ++ (H.map xr).drop (i + 1))) :: row b8 [.int .u32 (hp : Int), .slice (some ⟨bh, 0, none⟩) H.length k8] 26 :: Ω) (fun _ h => by rw [← hstep, ← u32s_set]; exact h) ?_
    refine m_run ?_
    exact IH (j - 1) _ _ (by omega) ⟨i + 1, by omega, rfl, rfl, congrArg (Value.int .i64) (i64_succ i (by omega)), rfl⟩
  obtain rfl : i = H.length := by omega
  rw [show ((H.map xr).take H.length).map xr ++ (H.map xr).drop H.length = (H.map xr).map xr by rw [← hSL, List.take_length, List.drop_length, List.append_nil]]
  clear IH
  have hback : (H.map xr).map xr = H := by
    rw [List.map_map]
    exact (List.map_congr_left fun x _ => xr_xr x).trans (List.map_id _)
  rw [hback]
  refine m_run ?_
  (apply TL.callV; exact rfl; exact callB_of (by kernel_rfl); exact rfl; exact fun _ h => h)
  exact rsameFact_t ⟨hp, B8, k8, H⟩ ⟨hp, B10, k10, H⟩ _ ⟨has_at (up_src _ _ _ _) 0 rfl fun _ h => own_src h, hk8⟩ (Fct.ok_tl (Fct.ok_tl o10)) (by show H.length ≤ _; omega)
  rintro _ _ ⟨rfl, rfl⟩
  rw [show decide (cmpF ⟨hp, B8, k8, H⟩ ⟨hp, B10, k10, H⟩ = 0) = true from decide_eq_true (cmpF_zero.2 ⟨rfl, rfl⟩)]
  refine m_rrun ?_
  (apply TL.callV; exact rfl; exact callB_of (by kernel_rfl); exact rfl; exact fun _ h => h)
  exact works5_t _
  rintro _ _ ⟨rfl, rfl⟩
  refine m_run ?_
  (apply TK.retS1; exact rfl; exact rfl; (exact m_val))
  · exact ⟨_, rfl, rfl, rfl⟩
  · exact .cons _ (.cons _ hsub2)
end Go.Proofs.Ytokggdgagfmacaa.E
