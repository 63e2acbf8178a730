/- AtomsLoose, walked. -/
import Derived.Test.YtokggdgagfmacaaD6
namespace Go.Proofs.Ytokggdgagfmacaa.E
open Go Go.RowKit Go.Proofs
theorem lift_mat (f g : Fct) (B : Option Addr) (k : Nat) : matA ⟨f.p, B, k, liftT f.l⟩ g = decide (cmpF f g = 0) := by
  unfold matA
  by_cases e0 : cmpF f g = 0
  · obtain ⟨q1, q2⟩ := cmpF_zero.1 e0
    simp only [lift_len, q1, q2, lift_match g.l g.l rfl, decide_true, Bool.and_true, e0]
  · rw [decide_eq_false e0]
    by_cases q1 : f.p = g.p
    · by_cases q2 : f.l.length = g.l.length
      · have q3 : f.l ≠ g.l := fun e => e0 (cmpF_zero.2 ⟨q1, e⟩)
        simp only [lift_len, lift_match f.l g.l q2, decide_eq_false q3, Bool.and_false]
      · simp only [lift_len, decide_eq_false q2, Bool.false_and, Bool.and_false]
    · simp only [decide_eq_false q1, Bool.false_and]
attribute [local irreducible] TK TL TQ TA TB Fn PV
set_option maxRecDepth 100000 in
set_option maxHeartbeats 8000000 in
theorem loose5_t (f g : Fct) (a : Atm) (i : Nat) (Γ : List HP) (hf : f.ok Γ) (hg : g.ok Γ) (ha : a.ok Γ) (hi8 : i < 256) :
    FnV Try.prog 11 [.agg f.cells.toArray, .agg g.cells.toArray, .agg a.cells.toArray, .int .u8 (i : Int)] Γ fun v Γ' => v = .bool true ∧ Γ' = Γ := by
  refine Fn.enter Try.func11 rfl rfl rfl fun E => ?_
  obtain ⟨p1, A1, c1, l1⟩ := f
  obtain ⟨p2, A2, c2, l2⟩ := g
  obtain ⟨pa, Aa, ca, la⟩ := a
  refine m_run ?_
  (apply TL.box; exact rfl; exact rfl; (exact m_lst))
  intro b4
  refine m_run ?_
  (apply TL.box; exact rfl; exact rfl; (exact m_lst))
  intro b5
  refine m_run ?_
  (apply TL.box; exact rfl; exact rfl; (exact m_lst))
  intro b6
  refine TL.imp (Δ := row b6 [.int .u32 (pa : Int), .slice Aa la.length ca] 42 :: row b5 [.int .u32 (p2 : Int), .slice A2 l2.length c2] 26 :: row b4 [.int .u32 (p1 : Int), .slice A1 l1.length c1] 26 :: Γ) (fun _ h => h) ?_
  by_cases n1 : 20 < l1.length
  · refine m_run ?_
    (apply TL.callV; exact rfl; exact callB_of (by kernel_rfl); exact rfl; exact fun _ h => h)
    exact works5_t _
    rintro _ _ ⟨rfl, rfl⟩
    refine m_run ?_
    (apply TK.retS1; exact rfl; exact rfl; (exact m_val))
    · exact ⟨_, rfl, rfl, rfl⟩
    · (repeat (first | exact List.Sublist.refl _ | apply List.Sublist.cons_cons | apply List.Sublist.cons))
  by_cases n2 : 20 < l2.length
  · refine m_run ?_
    (apply TL.callV; exact rfl; exact callB_of (by kernel_rfl); exact rfl; exact fun _ h => h)
    exact works5_t _
    rintro _ _ ⟨rfl, rfl⟩
    refine m_run ?_
    (apply TK.retS1; exact rfl; exact rfl; (exact m_val))
    · exact ⟨_, rfl, rfl, rfl⟩
    · (repeat (first | exact List.Sublist.refl _ | apply List.Sublist.cons_cons | apply List.Sublist.cons))
  by_cases n3 : 20 < la.length
  · refine m_run ?_
    (apply TL.callV; exact rfl; exact callB_of (by kernel_rfl); exact rfl; exact fun _ h => h)
    exact works5_t _
    rintro _ _ ⟨rfl, rfl⟩
    refine m_run ?_
    (apply TK.retS1; exact rfl; exact rfl; (exact m_val))
    · exact ⟨_, rfl, rfl, rfl⟩
    · (repeat (first | exact List.Sublist.refl _ | apply List.Sublist.cons_cons | apply List.Sublist.cons))
  obtain ⟨Δ, hΔ⟩ : ∃ Δ, row b6 [.int .u32 (pa : Int), .slice Aa la.length ca] 42 :: row b5 [.int .u32 (p2 : Int), .slice A2 l2.length c2] 26 :: row b4 [.int .u32 (p1 : Int), .slice A1 l1.length c1] 26 :: Γ = Δ := ⟨_, rfl⟩
  have w4 : has Δ (fun x => cellsAt x b4 0 [.int .u32 (p1 : Int), .slice A1 l1.length c1]) := by rw [← hΔ]; exact has_rows 2 rfl rfl
  have w5 : has Δ (fun x => cellsAt x b5 0 [.int .u32 (p2 : Int), .slice A2 l2.length c2]) := by rw [← hΔ]; exact has_rows 1 rfl rfl
  have w6 : has Δ (fun x => cellsAt x b6 0 [.int .u32 (pa : Int), .slice Aa la.length ca]) := by rw [← hΔ]; exact has_rows 0 rfl rfl
  have c4 : has Δ (fun x => cellAt x b4 1 (.slice A1 l1.length c1)) := by rw [← hΔ]; exact has_row 2 rfl rfl
  have d4 : has Δ (fun x => cellAt x b4 0 (.int .u32 (p1 : Int))) := by rw [← hΔ]; exact has_row 2 rfl rfl
  have c5 : has Δ (fun x => cellAt x b5 1 (.slice A2 l2.length c2)) := by rw [← hΔ]; exact has_row 1 rfl rfl
  have c6 : has Δ (fun x => cellAt x b6 1 (.slice Aa la.length ca)) := by rw [← hΔ]; exact has_row 0 rfl rfl
  have d6 : has Δ (fun x => cellAt x b6 0 (.int .u32 (pa : Int))) := by rw [← hΔ]; exact has_row 0 rfl rfl
  have fΔ : Fct.ok ⟨p1, A1, c1, l1⟩ Δ := by rw [← hΔ]; exact Fct.ok_tl (Fct.ok_tl (Fct.ok_tl hf))
  have gΔ : Fct.ok ⟨p2, A2, c2, l2⟩ Δ := by rw [← hΔ]; exact Fct.ok_tl (Fct.ok_tl (Fct.ok_tl hg))
  have aΔ : Atm.ok ⟨pa, Aa, ca, la⟩ Δ := by rw [← hΔ]; exact Atm.ok_tl (Atm.ok_tl (Atm.ok_tl ha))
  have hsub : Γ.Sublist Δ := by rw [← hΔ]; (repeat (first | exact List.Sublist.refl _ | apply List.Sublist.cons_cons | apply List.Sublist.cons))
  rw [hΔ]
  clear hΔ
  refine m_run ?_
  (apply TL.callV; exact rfl; exact callB_of (by kernel_rfl); exact rfl; exact fun _ h => h)
  exact lift_t ⟨p1, A1, c1, l1⟩ _ fΔ (by show l1.length ≤ _; omega)
  rintro _ _ ⟨B, k, hk, rfl, rfl⟩
  replace hk : l1.length ≤ k := hk
  have hml := lift_len l1
  refine m_run ?_
  (apply TL.alloc; exact rfl; exact tb rfl; (exact m_lst))
  intro b9
  refine m_rrun ?_
  refine TL.imp (Δ := row b9 [.int .u32 (p1 : Int), .slice B (liftT l1).length k] 42 :: own 54 2 (.slice B l1.length k) l1.length (tmsC (liftT l1)) :: Δ) (fun _ h => h) ?_
  have oA : Atm.ok ⟨p1, B, k, liftT l1⟩ (row b9 [.int .u32 (p1 : Int), .slice B (liftT l1).length k] 42 :: own 54 2 (.slice B l1.length k) l1.length (tmsC (liftT l1)) :: Δ) := ⟨by show has _ (srcAt 2 B (liftT l1).length (tmsC (liftT l1))); rw [hml]; exact has_at (up_src _ _ _ _) 1 rfl fun _ h => own_src h, by show (liftT l1).length ≤ k; omega⟩
  refine m_run ?_
  (apply TL.callV; exact rfl; exact callB_of (by kernel_rfl); exact rfl; exact fun _ h => h)
  exact of_t ⟨p1, B, k, liftT l1⟩ _ oA (by show (liftT l1).length ≤ _; omega)
  rintro _ _ (⟨_, B2, k2, hk2, rfl, rfl⟩ | ⟨hno, _⟩)
  rotate_left
  · exact absurd (hno.symm.trans (lift_ground l1)) (by decide)
  replace hk2 : (liftT l1).length ≤ k2 := hk2
  rw [lift_back]
  refine m_run ?_
  (apply TL.alloc; exact rfl; exact tb rfl; (exact m_lst))
  intro b10
  refine m_rrun ?_
  refine TL.nil ?_
  (repeat (first | refine TK.exit rfl ?_ | refine TK.seq ?_ | refine TK.block ?_ | refine TK.skip ?_ | refine TK.label ?_))
  refine TK.imp (Δ := row b10 [.int .u32 (p1 : Int), .slice B2 l1.length k2] 26 :: own 23 1 (.slice B2 l1.length k2) l1.length (u32s l1) :: row b9 [.int .u32 (p1 : Int), .slice B (liftT l1).length k] 42 :: own 54 2 (.slice B l1.length k) l1.length (tmsC (liftT l1)) :: Δ) (fun m h => by simp only [hml] at h; rw [hml]; exact h) ?_
  obtain ⟨Ω, hΩ⟩ : ∃ Ω, row b10 [.int .u32 (p1 : Int), .slice B2 l1.length k2] 26 :: own 23 1 (.slice B2 l1.length k2) l1.length (u32s l1) :: row b9 [.int .u32 (p1 : Int), .slice B (liftT l1).length k] 42 :: own 54 2 (.slice B l1.length k) l1.length (tmsC (liftT l1)) :: Δ = Ω := ⟨_, rfl⟩
  have hsub2 : Δ.Sublist Ω := by rw [← hΩ]; (repeat (first | exact List.Sublist.refl _ | apply List.Sublist.cons_cons | apply List.Sublist.cons))
  have x10 : has Ω (fun m => cellsAt m b10 0 [.int .u32 (p1 : Int), .slice B2 l1.length k2]) := by rw [← hΩ]; exact has_rows 0 rfl rfl
  have x9 : has Ω (fun m => cellsAt m b9 0 [.int .u32 (p1 : Int), .slice B (liftT l1).length k]) := by rw [← hΩ]; exact has_rows 2 rfl rfl
  have x4 : has Ω (fun m => cellsAt m b4 0 [.int .u32 (p1 : Int), .slice A1 l1.length c1]) := by rw [← hΩ]; exact has_tlg (has_tlg (has_tlg (has_tlg w4)))
  have x5 : has Ω (fun m => cellsAt m b5 0 [.int .u32 (p2 : Int), .slice A2 l2.length c2]) := by rw [← hΩ]; exact has_tlg (has_tlg (has_tlg (has_tlg w5)))
  have y10 : Fct.ok ⟨p1, B2, k2, l1⟩ Ω := by rw [← hΩ]; exact ⟨has_at (up_src _ _ _ _) 1 rfl fun _ h => own_src h, by show l1.length ≤ k2; omega⟩
  have y9 : Atm.ok ⟨p1, B, k, liftT l1⟩ Ω := by rw [← hΩ]; exact Atm.ok_tl (Atm.ok_tl oA)
  have y4 : Fct.ok ⟨p1, A1, c1, l1⟩ Ω := by rw [← hΩ]; exact Fct.ok_tl (Fct.ok_tl (Fct.ok_tl (Fct.ok_tl fΔ)))
  have y5 : Fct.ok ⟨p2, A2, c2, l2⟩ Ω := by rw [← hΩ]; exact Fct.ok_tl (Fct.ok_tl (Fct.ok_tl (Fct.ok_tl gΔ)))
  rw [hΩ]
  clear hΩ
  refine TK.drawS mixed rfl ?_
  refine m_take (At.mk : At 0) ?_; refine m_take (At.mk : At 1) ?_
  refine TA.isF 42 rfl rfl ?_
  refine m_take (At.mk : At 2) ?_; refine m_take (At.mk : At 3) ?_; refine m_take (At.mk : At 4) ?_
  (apply TA.one 5; kernel_rfl; exact rfl)
  refine m_rrun ?_
  (apply TL.callV; exact rfl; exact callB_of (by kernel_rfl); exact rfl; exact fun _ h => h)
  exact compare_t ⟨p1, B2, k2, l1⟩ ⟨p1, A1, c1, l1⟩ _ y10 y4 (by show l1.length ≤ _; omega)
  rintro _ _ ⟨rfl, rfl⟩
  rw [show cmpF ⟨p1, B2, k2, l1⟩ ⟨p1, A1, c1, l1⟩ = 0 from cmpF_zero.2 ⟨rfl, rfl⟩]
  refine TL.back (by (focus ((repeat (first | assumption | exact Ent.refl _ | apply Ent.tail)); done))) ?_
  refine m_take (At.mk : At 6) ?_
  refine TA.isF 47 rfl rfl ?_
  refine m_take (At.mk : At 7) ?_; refine m_take (At.mk : At 8) ?_; refine m_take (At.mk : At 9) ?_
  (apply TA.one 10; kernel_rfl; exact rfl)
  refine m_rrun ?_
  (apply TL.callV; exact rfl; exact callB_of (by kernel_rfl); exact rfl; exact fun _ h => h)
  exact ground_t ⟨p1, B, k, liftT l1⟩ _ y9 (by show (liftT l1).length ≤ _; omega)
  rintro _ _ ⟨rfl, rfl⟩
  rw [show groundA (Atm.l ⟨p1, B, k, liftT l1⟩) = true from lift_ground l1]
  refine TL.back (by (focus ((repeat (first | assumption | exact Ent.refl _ | apply Ent.tail)); done))) ?_
  refine m_take (At.mk : At 11) ?_
  refine TA.isF 52 rfl rfl ?_
  refine m_take (At.mk : At 12) ?_; refine m_take (At.mk : At 13) ?_; refine m_take (At.mk : At 14) ?_
  (apply TA.one 15; kernel_rfl; exact rfl)
  refine m_rrun ?_
  (apply TL.callV; exact rfl; exact callB_of (by kernel_rfl); exact rfl; exact fun _ h => h)
  exact varsG_t ⟨p1, B, k, liftT l1⟩ _ y9 (by show (liftT l1).length ≤ _; omega)
  rintro _ _ ⟨D, B3, k3, hD, _, _, rfl, rfl⟩
  obtain rfl : D = [] := by
    have : (varsOf (Atm.l ⟨p1, B, k, liftT l1⟩)) = [] := lift_vars l1
    rw [this] at hD
    exact hD.eq_nil
  refine TL.sub (Δ := _) (List.sublist_cons_self _ _) ?_
  refine TL.back (by (focus ((repeat (first | assumption | exact Ent.refl _ | apply Ent.tail)); done))) ?_
  refine m_take (At.mk : At 16) ?_; refine m_take (At.mk : At 17) ?_
  refine TA.isF 58 rfl rfl ?_
  refine m_take (At.mk : At 18) ?_; refine m_take (At.mk : At 19) ?_; refine m_take (At.mk : At 20) ?_; refine m_take (At.mk : At 21) ?_
  (apply TA.one 22; kernel_rfl; exact rfl)
  refine m_rrun ?_
  (apply TL.callV; exact rfl; exact callB_of (by kernel_rfl); exact rfl; exact fun _ h => h)
  exact matchG_t ⟨p1, B, k, liftT l1⟩ ⟨p1, A1, c1, l1⟩ _ y9 y4 (by show (liftT l1).length ≤ _; omega)
  rintro _ _ ⟨rfl, rfl⟩
  rw [show matA ⟨p1, B, k, liftT l1⟩ ⟨p1, A1, c1, l1⟩ = true by rw [lift_mat ⟨p1, A1, c1, l1⟩ ⟨p1, A1, c1, l1⟩ B k]; exact decide_eq_true (cmpF_zero.2 ⟨rfl, rfl⟩)]
  refine TL.back (by (focus ((repeat (first | assumption | exact Ent.refl _ | apply Ent.tail)); done))) ?_
  refine m_take (At.mk : At 23) ?_
  refine TA.isF 64 rfl rfl ?_
  refine m_take (At.mk : At 24) ?_; refine m_take (At.mk : At 25) ?_; refine m_take (At.mk : At 26) ?_; refine m_take (At.mk : At 27) ?_; refine m_take (At.mk : At 29) ?_; refine m_take (At.mk : At 30) ?_
  (apply TA.one 28; kernel_rfl; exact rfl)
  refine m_rrun ?_
  (apply TL.callV; exact rfl; exact callB_of (by kernel_rfl); exact rfl; exact fun _ h => h)
  exact matchG_t ⟨p1, B, k, liftT l1⟩ ⟨p2, A2, c2, l2⟩ _ y9 y5 (by show (liftT l1).length ≤ _; omega)
  rintro _ _ ⟨rfl, rfl⟩
  rw [show matA ⟨p1, B, k, liftT l1⟩ ⟨p2, A2, c2, l2⟩ = decide (cmpF ⟨p1, A1, c1, l1⟩ ⟨p2, A2, c2, l2⟩ = 0) from lift_mat ⟨p1, A1, c1, l1⟩ ⟨p2, A2, c2, l2⟩ B k]
  refine TL.back (by (focus ((repeat (first | assumption | exact Ent.refl _ | apply Ent.tail)); done))) ?_
  (apply TA.one 31; kernel_rfl; exact rfl)
  refine m_rrun ?_
  (apply TL.callV; exact rfl; exact callB_of (by kernel_rfl); exact rfl; exact fun _ h => h)
  exact compare_t ⟨p1, A1, c1, l1⟩ ⟨p2, A2, c2, l2⟩ _ y4 y5 (by show l1.length ≤ _; omega)
  rintro _ _ ⟨rfl, rfl⟩
  refine TL.back (by (focus ((repeat (first | assumption | exact Ent.refl _ | apply Ent.tail)); done))) ?_
  refine m_take (At.mk : At 32) ?_; refine m_take (At.mk : At 33) ?_
  refine TA.isF 74 rfl (by by_cases h : cmpF ⟨p1, A1, c1, l1⟩ ⟨p2, A2, c2, l2⟩ = 0 <;> simp [h]) ?_
  refine m_take (At.mk : At 34) ?_
  refine TA.done (by kernel_rfl) ?_
  refine TK.sub hsub2 ?_
  clear x10 x9 x4 x5 y10 y9 y4 y5 hsub2
  by_cases h0 : la.length = 0
  · refine m_run ?_
    (apply TL.callV; exact rfl; exact callB_of (by kernel_rfl); exact rfl; exact fun _ h => h)
    exact works5_t _
    rintro _ _ ⟨rfl, rfl⟩
    refine m_run ?_
    (apply TK.retS1; exact rfl; exact rfl; (exact m_val))
    · exact ⟨_, rfl, rfl, rfl⟩
    · exact hsub
  refine m_run ?_
  (apply TL.callV; exact rfl; exact callB_of (by kernel_rfl); exact rfl; exact fun _ h => h)
  exact matchG_t ⟨pa, Aa, ca, la⟩ ⟨p1, A1, c1, l1⟩ _ aΔ fΔ (by show la.length ≤ _; omega)
  rintro _ Δ ⟨rfl, rfl⟩
  cases hmat : matA ⟨pa, Aa, ca, la⟩ ⟨p1, A1, c1, l1⟩ with
  | false =>
    refine m_run ?_
    (apply TL.callV; exact rfl; exact callB_of (by kernel_rfl); exact rfl; exact fun _ h => h)
    exact works5_t _
    rintro _ _ ⟨rfl, rfl⟩
    refine m_run ?_
    (apply TK.retS1; exact rfl; exact rfl; (exact m_val))
    · exact ⟨_, rfl, rfl, rfl⟩
    · exact hsub
  | true =>
    refine m_run ?_
    (apply TL.callV; exact rfl; exact callB_of (by kernel_rfl); exact rfl; exact fun _ h => h)
    exact varsG_t ⟨pa, Aa, ca, la⟩ _ aΔ (by show la.length ≤ _; omega)
    rintro _ _ ⟨D, B3, k3, hD, _, hk3, rfl, rfl⟩
    replace hD : D.Perm (varsOf la) := hD
    have hmem := compL_mem D
    have hcl := compL_len D
    generalize compL D = V at *
    have hVmem : ∀ n, (⟨true, n⟩ : Tm) ∈ la → n ∈ V := fun n hn => (hmem n).2 (hD.mem_iff.2 (by
      unfold varsOf
      exact List.mem_map.2 ⟨⟨true, n⟩, List.mem_filter.2 ⟨hn, rfl⟩, rfl⟩))
    have hVlen : V.length ≤ 20 := by
      have h1 := hD.length_eq
      have h2 := varsOf_len la
      omega
    refine m_run ?_
    apply TK.iter (fun j ρ' Γ' => ∃ (q F : Nat), q + j = V.length ∧ (∀ r, r < q → ∀ N, V[r]? = some N → (N + 1) % 4294967296 ≤ F) ∧ lk ρ' 3 = .int .u8 (i : Int) ∧ lk ρ' 4 = .pointer (some ⟨b4, 0, none⟩) ∧ lk ρ' 5 = .pointer (some ⟨b5, 0, none⟩) ∧ lk ρ' 6 = .pointer (some ⟨b6, 0, none⟩) ∧ lk ρ' 12 = .int .u32 (F : Int) ∧ lk ρ' 13 = .slice B3 V.length k3 ∧ lk ρ' 14 = .int .i64 (q : Int) ∧ Γ' = own 23 1 (.slice B3 V.length k3) V.length (u32s V) :: Δ) V.length
    · exact ⟨0, 0, Nat.zero_add _, fun r h => absurd h (Nat.not_lt_zero r), rfl, rfl, rfl, rfl, rfl, rfl, rfl, rfl⟩
    rintro j IH ρ' _ ⟨q, F, hqj, hF, e3, e4, e5, e6, e12, e13, e14, rfl⟩
    refine TK.know7 e3 e4 e5 e6 e12 e13 e14 ?_
    by_cases hq : q < V.length
    · obtain ⟨N, hN⟩ : ∃ N, V[q]? = some N := ⟨V[q], List.getElem?_eq_getElem hq⟩
      refine TK.mem fun m0 hm0 => ?_
      obtain ⟨b, rfl⟩ := own_addr hm0 (by omega)
      clear hm0 m0
      have hc : has (own 23 1 (.slice (some ⟨b, 0, none⟩) V.length k3) V.length (u32s V) :: Δ) (fun m => cellAt m b q (.int .u32 (N : Int))) := ownU_cell hN
      have hw : IntKind.u32.wrap ((N : Int) + 1) = (((N + 1) % 4294967296 : Nat) : Int) := by
        rw [show (N : Int) + 1 = ((N + 1 : Nat) : Int) by omega, wrap_nat rfl]; rfl
      refine m_run ?_
      refine IH (j - 1) _ _ (by omega) ⟨q + 1, max F ((N + 1) % 4294967296), by omega, fun r hr M hM => ?_, rfl, rfl, rfl, rfl, congrArg (Value.int .u32) ?_, rfl, congrArg (Value.int .i64) (i64_succ q (by omega)), rfl⟩
      · rcases Nat.lt_or_ge r q with h1 | h1
        · exact Nat.le_trans (hF r h1 M hM) (Nat.le_max_left _ _)
        · rw [show r = q by omega, hN] at hM
          rw [← Option.some.inj hM]
          exact Nat.le_max_right _ _
      · rw [hw]
        split
        · rw [Nat.max_eq_right (by omega)]
        · rw [Nat.max_eq_left (by omega)]
    obtain rfl : q = V.length := by omega
    refine TK.sub (List.sublist_cons_self _ _) ?_
    by_cases hF16 : 16 ≤ F
    · clear IH
      refine TK.free (H := own 23 1 (.slice none 0 0) 0 []) (fun m h => own_nil _ _ h) ?_
      refine m_run ?_
      (apply TL.callV; exact rfl; exact callB_of (by kernel_rfl); exact rfl; exact fun _ h => h)
      exact works5_t _
      rintro _ _ ⟨rfl, rfl⟩
      refine m_run ?_
      (apply TK.retS1; exact rfl; exact rfl; (exact m_val))
      · exact ⟨_, rfl, rfl, rfl⟩
      · exact .cons _ hsub
    have hFno : (⟨true, F⟩ : Tm) ∉ la := fun h => by
      obtain ⟨r, hr, hre⟩ := List.getElem_of_mem (hVmem F h)
      have := hF r hr F (by rw [List.getElem?_eq_getElem hr, hre])
      omega
    obtain ⟨hpa, hlm, hmL⟩ : pa = p1 ∧ la.length = l1.length ∧ matL la l1 = true := by
      simp only [matA, Bool.and_eq_true, decide_eq_true_eq] at hmat
      exact ⟨hmat.1, hmat.2.1, hmat.2.2⟩
    clear IH hF hVmem hmem hD hVlen
    refine m_run ?_
    refine TK.drawE mixed rfl Δ ?_
    refine m_take (At.mk : At 0) ?_; refine m_take (At.mk : At 1) ?_; refine m_take (At.mk : At 3) ?_; refine m_take (At.mk : At 4) ?_
    refine TA.cutJ [2, 5, 6, 7] (fun ρ' Γ' => ∃ (b15 : Nat) (C : Option Addr) (kc : Nat), la.length ≤ kc ∧ lk ρ' 3 = .int .u8 (i : Int) ∧ lk ρ' 4 = .pointer (some ⟨b4, 0, none⟩) ∧ lk ρ' 5 = .pointer (some ⟨b5, 0, none⟩) ∧ lk ρ' 6 = .pointer (some ⟨b6, 0, none⟩) ∧ lk ρ' 12 = .int .u32 (F : Int) ∧ lk ρ' 15 = .pointer (some ⟨b15, 0, none⟩) ∧ lk ρ' 111 = .agg [.int .u32 (pa : Int), .slice C la.length kc].toArray ∧ Γ' = row b15 [.int .u32 0, .slice none 0 0] 42 :: own 54 2 (.slice C la.length kc) la.length (tmsC la) :: Δ) rfl ?_ ?_
    · intro tail
      refine TA.two 2 7 (by kernel_rfl) rfl rfl ?_ ?_
      · (apply TL.buildSlice (l := []); exact rfl; exact tb rfl; exact rfl; exact tb rfl; exact rfl; exact rfl; exact rfl; exact rfl; exact rfl)
        intro b107
        refine TL.back (by (focus ((repeat (first | assumption | exact Ent.refl _ | apply Ent.tail)); done))) ?_
        refine TA.two 5 7 (by kernel_rfl) rfl rfl ?_ ?_
        · (apply TL.append 0 (n := 0) (m := la.length) (cs := []) (news := tmsC la); exact rfl; exact rfl; exact tb rfl; exact rfl; exact tb rfl; exact rfl; exact rfl; exact rfl)
          · exact fun _ h => own_row rfl (Nat.zero_le _) h
          · exact rfl
          · exact has_tls aΔ.1
          · exact tmsC_one la
          · show (0 + la.length) * 8 ≤ _; omega
          · show 0 + la.length ≤ maxLen; unfold maxLen; omega
          · exact fun _ => (rfl : _ = _ :: _)
          intro C kc hkc
          simp only [Nat.zero_add, List.nil_append] at hkc ⊢
          refine TL.back (by (focus ((repeat (first | assumption | exact Ent.refl _ | apply Ent.tail)); done))) ?_
          (apply TA.takeA (At.mk : At 6); exact rfl; exact rfl; kernel_rfl; ((focus ((repeat (first | assumption | exact Ent.refl _ | apply Ent.tail)); done))); (apply PV.build tabs; exact rfl; exact rfl; exact rfl; exact rfl; exact rfl; exact (rfl : _ = [Value.int .u32 (pa : Int), .slice C la.length kc])))
          (apply TA.one 7; kernel_rfl; exact rfl)
          (apply TL.alloc; exact rfl; exact tb rfl; exact (rfl : _ = [_, _]))
          intro b15
          refine TL.back (by (focus ((repeat (first | assumption | exact Ent.refl _ | apply Ent.tail)); done))) ?_
          refine TA.eqL ?_ (tail _ _ ⟨b15, C, kc, hkc, rfl, rfl, rfl, rfl, rfl, rfl, rfl, rfl⟩)
          kernel_rfl
        · (apply TL.alloc; exact rfl; exact tb rfl; exact (rfl : _ = [_, _]))
          intro b15
          refine TL.back (by (focus ((repeat (first | assumption | exact Ent.refl _ | apply Ent.tail)); done))) ?_
          (apply TA.one 5; kernel_rfl; exact rfl)
          (apply TL.append 1 (n := 0) (m := la.length) (cs := []) (news := tmsC la); exact rfl; exact rfl; exact tb rfl; exact rfl; exact tb rfl; exact rfl; exact rfl; exact rfl)
          · exact fun _ h => own_row rfl (Nat.zero_le _) h
          · exact rfl
          · exact has_tls (has_tls aΔ.1)
          · exact tmsC_one la
          · show (0 + la.length) * 8 ≤ _; omega
          · show 0 + la.length ≤ maxLen; unfold maxLen; omega
          · exact fun _ => (rfl : _ = _ :: _ :: _)
          intro C kc hkc
          simp only [Nat.zero_add, List.nil_append] at hkc ⊢
          refine TL.back (by (focus ((repeat (first | assumption | exact Ent.refl _ | apply Ent.tail)); done))) ?_
          (apply TA.takeA (At.mk : At 6); exact rfl; exact rfl; kernel_rfl; ((focus ((repeat (first | assumption | exact Ent.refl _ | apply Ent.tail)); done))); (apply PV.build tabs; exact rfl; exact rfl; exact rfl; exact rfl; exact rfl; exact (rfl : _ = [Value.int .u32 (pa : Int), .slice C la.length kc])))
          refine TA.eqL ?_ (tail _ _ ⟨b15, C, kc, hkc, rfl, rfl, rfl, rfl, rfl, rfl, rfl, rfl⟩)
          kernel_rfl
      · (apply TL.alloc; exact rfl; exact tb rfl; exact (rfl : _ = [_, _]))
        intro b15
        refine TL.back (by (focus ((repeat (first | assumption | exact Ent.refl _ | apply Ent.tail)); done))) ?_
        (apply TA.one 2; kernel_rfl; exact rfl)
        (apply TL.buildSlice (l := []); exact rfl; exact tb rfl; exact rfl; exact tb rfl; exact rfl; exact rfl; exact rfl; exact rfl; exact rfl)
        intro b107
        refine TL.back (by (focus ((repeat (first | assumption | exact Ent.refl _ | apply Ent.tail)); done))) ?_
        (apply TA.one 5; kernel_rfl; exact rfl)
        (apply TL.append 0 (n := 0) (m := la.length) (cs := []) (news := tmsC la); exact rfl; exact rfl; exact tb rfl; exact rfl; exact tb rfl; exact rfl; exact rfl; exact rfl)
        · exact fun _ h => own_row rfl (Nat.zero_le _) h
        · exact rfl
        · exact has_tls (has_tls aΔ.1)
        · exact tmsC_one la
        · show (0 + la.length) * 8 ≤ _; omega
        · show 0 + la.length ≤ maxLen; unfold maxLen; omega
        · exact fun _ => (rfl : _ = _ :: _)
        intro C kc hkc
        simp only [Nat.zero_add, List.nil_append] at hkc ⊢
        refine TL.back (by (focus ((repeat (first | assumption | exact Ent.refl _ | apply Ent.tail)); done))) ?_
        (apply TA.takeA (At.mk : At 6); exact rfl; exact rfl; kernel_rfl; ((focus ((repeat (first | assumption | exact Ent.refl _ | apply Ent.tail)); done))); (apply PV.build tabs; exact rfl; exact rfl; exact rfl; exact rfl; exact rfl; exact (rfl : _ = [Value.int .u32 (pa : Int), .slice C la.length kc])))
        refine TA.perm (List.Perm.swap _ _ _) ?_
        refine TA.eqL ?_ (tail _ _ ⟨b15, C, kc, hkc, rfl, rfl, rfl, rfl, rfl, rfl, rfl, rfl⟩)
        kernel_rfl
    · rintro ρ' _ ⟨b15, C, kc, hkc, e3, e4, e5, e6, e12, e15, e111, rfl⟩
      refine TA.know e3 (TA.know (t := 4) (v := .pointer (some ⟨b4, 0, none⟩)) e4 (TA.know (t := 5) (v := .pointer (some ⟨b5, 0, none⟩)) e5 (TA.know (t := 6) (v := .pointer (some ⟨b6, 0, none⟩)) e6 (TA.know (t := 12) (v := .int .u32 (F : Int)) e12 (TA.know (t := 15) (v := .pointer (some ⟨b15, 0, none⟩)) e15 (TA.know (t := 111) (v := .agg [Value.int .u32 (pa : Int), Value.slice C la.length kc].toArray) e111 ?_))))))
      (apply TA.one 8; kernel_rfl; exact rfl)
      refine m_rrun ?_
      refine TL.back (by (focus ((repeat (first | assumption | exact Ent.refl _ | apply Ent.tail)); done))) ?_
      refine TA.done (by kernel_rfl) ?_
      refine TK.imp (Δ := row b15 [.int .u32 (pa : Int), .slice C la.length kc] 42 :: own 54 2 (.slice C la.length kc) la.length (tmsC la) :: Δ) (fun _ h => h) ?_
      refine TK.perm (List.Perm.swap _ _ _) ?_
      refine TK.mem fun m0 hm0 => ?_
      obtain ⟨bc, rfl⟩ := own_addr hm0 (by omega)
      clear hm0 m0
      have hp : i % la.length < la.length := Nat.mod_lt _ (by omega)
      have hloose := match_loose hlm hp hFno hmL
      refine m_run ?_
      refine TK.drawB mixed rfl 11 (row b15 [.int .u32 (pa : Int), .slice (some ⟨bc, 0, none⟩) la.length kc] 42 :: Δ) Δ ?_
      refine m_bake (At.mk : At 0) ?_; refine m_bake (At.mk : At 1) ?_; refine m_bake (At.mk : At 2) ?_; refine m_bake (At.mk : At 3) ?_
      refine TB.know (t := 115) (v := .int .i64 (i : Int)) (congrArg (Value.int .i64) (i64_nat (by omega))) ?_
      refine m_bake (At.mk : At 4) ?_; refine m_bake (At.mk : At 5) ?_; refine m_bake (At.mk : At 6) ?_
      (apply TB.takeA (At.mk : At 7); exact rfl; exact rfl; kernel_rfl; exact rfl; ((focus ((repeat (first | assumption | exact Ent.refl _ | apply Ent.tail)); done))); (apply PV.remN (n := i) (m := la.length); exact rfl; exact rfl; exact rfl; exact h0))
      generalize i % la.length = p at *
      refine m_bake (At.mk : At 8) ?_
      (apply TB.one 9; kernel_rfl; exact rfl; exact rfl)
      (apply TL.callV; exact rfl; exact callB_of (by kernel_rfl); exact rfl; exact fun _ h => h)
      exact mkx_t F _
      rintro _ _ ⟨rfl, rfl⟩
      refine TL.backB (by (focus ((repeat (first | assumption | exact Ent.refl _ | apply Ent.tail)); done))) ?_
      refine m_bake (At.mk : At 10) ?_
      (apply TB.last; kernel_rfl; exact rfl)
      (apply TL.storeOwnA 0 p; exact rfl; exact rfl; exact rfl; exact rfl; exact tb rfl; exact rfl; exact rfl; exact rfl; exact hp; exact tmsC_set _ hp; exact rfl)
      refine TL.back (by (focus ((repeat (first | assumption | exact Ent.refl _ | apply Ent.tail)); done))) ?_
      refine TA.done (by kernel_rfl) ?_
      have hL : (la.set p ⟨true, F⟩).length = la.length := List.length_set ..
      generalize la.set p ⟨true, F⟩ = L at *
      refine TK.imp (Δ := own 54 2 (.slice (some ⟨bc, 0, none⟩) L.length kc) L.length (tmsC L) :: row b15 [.int .u32 (pa : Int), .slice (some ⟨bc, 0, none⟩) L.length kc] 42 :: Δ) (fun _ h => by rw [hL]; exact h) ?_
      refine m_run ?_
      (apply TL.alloc; exact rfl; exact tb rfl; exact (rfl : _ = [_, _]))
      intro b16
      refine m_run ?_
      refine TL.imp (Δ := row b16 [.int .u32 (p2 : Int), .slice A2 l2.length c2] 26 :: own 54 2 (.slice (some ⟨bc, 0, none⟩) L.length kc) L.length (tmsC L) :: row b15 [.int .u32 (pa : Int), .slice (some ⟨bc, 0, none⟩) L.length kc] 42 :: Δ) (fun _ h => h) ?_
      (apply TL.buildSlice (l := []); exact rfl; exact tb rfl; exact rfl; exact tb rfl; exact rfl; exact rfl; exact rfl; exact rfl; exact rfl)
      intro b124
      refine m_rrun ?_
      (apply TL.append 0 (n := 0) (m := l1.length) (cs := []) (news := u32s l1); exact rfl; exact rfl; exact tb rfl; exact rfl; exact tb rfl; exact rfl; exact rfl; exact rfl)
      · exact fun _ h => own_row rfl (Nat.zero_le _) h
      · exact rfl
      · exact has_tls (has_tls (has_tls (has_tls fΔ.1)))
      · exact u32s_one l1
      · show (0 + l1.length) * 4 ≤ _; omega
      · show 0 + l1.length ≤ maxLen; unfold maxLen; omega
      · exact fun _ => (rfl : _ = _ :: _)
      intro G kg hkg
      simp only [Nat.zero_add, List.nil_append] at hkg ⊢
      (apply TL.buildSlice (l := u32s [1]); exact rfl; exact tb rfl; exact rfl; exact tb rfl; exact rfl; exact rfl; exact rfl; exact rfl; exact rfl)
      intro b128
      (apply TL.append 1; exact rfl; exact rfl; exact tb rfl; exact rfl; exact tb rfl; exact rfl; exact rfl; exact rfl)
      · exact fun _ h => h
      · exact rfl
      · exact has_src_row 0 rfl rfl
      · exact one_of rfl
      · show (l1.length + 1) * 4 ≤ _; omega
      · show l1.length + 1 ≤ maxLen; unfold maxLen; omega
      · exact fun _ => (rfl : _ = _ :: _ :: _)
      intro H kh hkh
      rw [show u32s l1 ++ u32s [1] = u32s (l1 ++ [1]) from u32s_snoc l1 1]
      refine m_run ?_
      have hM : (l1 ++ [1]).length = l1.length + 1 := by simp
      generalize l1 ++ [1] = M at *
      refine TL.imp (Δ := row b128 (u32s [1]) 23 :: own 23 1 (.slice H M.length kh) M.length (u32s M) :: row b16 [.int .u32 (p1 : Int), .slice H M.length kh] 26 :: own 54 2 (.slice (some ⟨bc, 0, none⟩) L.length kc) L.length (tmsC L) :: row b15 [.int .u32 (pa : Int), .slice (some ⟨bc, 0, none⟩) L.length kc] 42 :: Δ) (fun _ h => by rw [hM]; exact h) ?_
      generalize hctx : (row b128 (u32s [1]) 23 :: own 23 1 (.slice H M.length kh) M.length (u32s M) :: row b16 [.int .u32 (p1 : Int), .slice H M.length kh] 26 :: own 54 2 (.slice (some ⟨bc, 0, none⟩) L.length kc) L.length (tmsC L) :: row b15 [.int .u32 (pa : Int), .slice (some ⟨bc, 0, none⟩) L.length kc] 42 :: Δ : List HP) = Ω
      have z15 : has Ω (fun x => cellsAt x b15 0 [.int .u32 (pa : Int), .slice (some ⟨bc, 0, none⟩) L.length kc]) := by rw [← hctx]; exact has_tlg (has_rows 3 rfl rfl)
      have z16 : has Ω (fun x => cellsAt x b16 0 [.int .u32 (p1 : Int), .slice H M.length kh]) := by rw [← hctx]; exact has_rows 2 rfl rfl
      have z6 : has Ω (fun x => cellsAt x b6 0 [.int .u32 (pa : Int), .slice Aa la.length ca]) := by rw [← hctx]; exact has_tlg (has_tlg (has_tlg (has_tlg (has_tlg w6))))
      have okL : Atm.ok ⟨pa, some ⟨bc, 0, none⟩, kc, L⟩ Ω := by rw [← hctx]; exact ⟨has_own 3 rfl, by show L.length ≤ kc; omega⟩
      have okM : Fct.ok ⟨p1, H, kh, M⟩ Ω := by rw [← hctx]; exact ⟨has_at (up_src _ _ _ _) 1 rfl fun _ h => own_src h, by show M.length ≤ kh; omega⟩
      have oka : Atm.ok ⟨pa, Aa, ca, la⟩ Ω := by rw [← hctx]; exact Atm.ok_tl (Atm.ok_tl (Atm.ok_tl (Atm.ok_tl (Atm.ok_tl aΔ))))
      have okf : Fct.ok ⟨p1, A1, c1, l1⟩ Ω := by rw [← hctx]; exact Fct.ok_tl (Fct.ok_tl (Fct.ok_tl (Fct.ok_tl (Fct.ok_tl fΔ))))
      have hsub3 : Γ.Sublist Ω := by rw [← hctx]; exact .cons _ (.cons _ (.cons _ (.cons _ (.cons _ hsub))))
      clear hctx
      (apply TL.callV; exact rfl; exact callB_of (by kernel_rfl); exact rfl; exact fun _ h => h)
      exact matchG_t ⟨pa, some ⟨bc, 0, none⟩, kc, L⟩ ⟨p1, A1, c1, l1⟩ _ okL okf (by show L.length ≤ _; omega)
      rintro _ Ω ⟨rfl, rfl⟩
      rw [show matA ⟨pa, some ⟨bc, 0, none⟩, kc, L⟩ ⟨p1, A1, c1, l1⟩ = true by simp [matA, hpa, hL, hlm, hloose]]
      refine m_rrun ?_
      (apply TL.callV; exact rfl; exact callB_of (by kernel_rfl); exact rfl; exact fun _ h => h)
      exact matchG_t ⟨pa, Aa, ca, la⟩ ⟨p1, H, kh, M⟩ _ oka okM (by show la.length ≤ _; omega)
      rintro _ Ω ⟨rfl, rfl⟩
      rw [show matA ⟨pa, Aa, ca, la⟩ ⟨p1, H, kh, M⟩ = false by
        have : la.length ≠ M.length := by omega
        simp [matA, this]]
      refine m_rrun ?_
      (apply TL.callV; exact rfl; exact callB_of (by kernel_rfl); exact rfl; exact fun _ h => h)
      exact matchG_t ⟨pa, some ⟨bc, 0, none⟩, kc, L⟩ ⟨p1, H, kh, M⟩ _ okL okM (by show L.length ≤ _; omega)
      rintro _ Ω ⟨rfl, rfl⟩
      rw [show matA ⟨pa, some ⟨bc, 0, none⟩, kc, L⟩ ⟨p1, H, kh, M⟩ = false by
        have : L.length ≠ M.length := by omega
        simp [matA, this]]
      refine m_rrun ?_
      (apply TL.callV; exact rfl; exact callB_of (by kernel_rfl); exact rfl; exact fun _ h => h)
      exact works5_t _
      rintro _ _ ⟨rfl, rfl⟩
      refine m_run ?_
      (apply TK.retS1; exact rfl; exact rfl; (exact m_val))
      · exact ⟨_, rfl, rfl, rfl⟩
      · exact hsub3
end Go.Proofs.Ytokggdgagfmacaa.E
