/- AtomsOrder, walked; how facts are read as data. -/
import Derived.Test.YtokggdgagfmacaaC3
namespace Go.Proofs.Ytokggdgagfmacaa.E
open Go Go.RowKit Go.Proofs
attribute [local irreducible] TK TL TQ TA Fn PV
theorem Fct.ok_tls {f : Fct} {Γ : List HP} {H1 H2 H3 : HP} (h : f.ok Γ) : f.ok (H1 :: H2 :: H3 :: Γ) := Fct.ok_tl (Fct.ok_tl (Fct.ok_tl h))
set_option maxRecDepth 100000 in
set_option maxHeartbeats 8000000 in
theorem order5_t (f g h : Fct) (Γ : List HP) (hf : f.ok Γ) (hg : g.ok Γ) (hh : h.ok Γ) :
    FnV Try.prog 10 [.agg f.cells.toArray, .agg g.cells.toArray, .agg h.cells.toArray] Γ fun v Γ' => v = .bool true ∧ Γ' = Γ := by
  refine Fn.enter Try.func10 rfl rfl rfl fun E => ?_
  have r1 := cmpF_range f g
  have r2 := cmpF_range g h
  have g3 := cmpF_goes f g h
  have z1 := @cmpF_zero f g
  have anti := cmpF_anti f g
  obtain ⟨p1, A1, c1, l1⟩ := f
  obtain ⟨p2, A2, c2, l2⟩ := g
  obtain ⟨p3, A3, c3, l3⟩ := h
  refine m_run ?_
  (apply TL.box; exact rfl; exact rfl; (exact m_lst))
  intro b3
  refine m_run ?_
  (apply TL.box; exact rfl; exact rfl; (exact m_lst))
  intro b4
  refine m_run ?_
  (apply TL.box; exact rfl; exact rfl; (exact m_lst))
  intro b5
  refine TL.imp (Δ := row b5 [.int .u32 (p3 : Int), .slice A3 l3.length c3] 26 :: row b4 [.int .u32 (p2 : Int), .slice A2 l2.length c2] 26 :: row b3 [.int .u32 (p1 : Int), .slice A1 l1.length c1] 26 :: Γ) (fun _ h => h) ?_
  have kf := Fct.ok_tls (H1 := row b5 [.int .u32 (p3 : Int), .slice A3 l3.length c3] 26) (H2 := row b4 [.int .u32 (p2 : Int), .slice A2 l2.length c2] 26) (H3 := row b3 [.int .u32 (p1 : Int), .slice A1 l1.length c1] 26) hf
  have kg := Fct.ok_tls (H1 := row b5 [.int .u32 (p3 : Int), .slice A3 l3.length c3] 26) (H2 := row b4 [.int .u32 (p2 : Int), .slice A2 l2.length c2] 26) (H3 := row b3 [.int .u32 (p1 : Int), .slice A1 l1.length c1] 26) hg
  have kh := Fct.ok_tls (H1 := row b5 [.int .u32 (p3 : Int), .slice A3 l3.length c3] 26) (H2 := row b4 [.int .u32 (p2 : Int), .slice A2 l2.length c2] 26) (H3 := row b3 [.int .u32 (p1 : Int), .slice A1 l1.length c1] 26) hh
  by_cases n1 : 100 < l1.length
  · refine m_run ?_
    (apply TL.callV; exact rfl; exact callB_of (by kernel_rfl); exact rfl; exact fun _ h => h)
    exact works5_t _
    rintro _ _ ⟨rfl, rfl⟩
    refine m_run ?_
    (apply TK.retS1; exact rfl; exact rfl; (exact m_val))
    · exact ⟨_, rfl, rfl, rfl⟩
    · (repeat (first | exact List.Sublist.refl _ | apply List.Sublist.cons_cons | apply List.Sublist.cons))
  by_cases n2 : 100 < l2.length
  · refine m_run ?_
    (apply TL.callV; exact rfl; exact callB_of (by kernel_rfl); exact rfl; exact fun _ h => h)
    exact works5_t _
    rintro _ _ ⟨rfl, rfl⟩
    refine m_run ?_
    (apply TK.retS1; exact rfl; exact rfl; (exact m_val))
    · exact ⟨_, rfl, rfl, rfl⟩
    · (repeat (first | exact List.Sublist.refl _ | apply List.Sublist.cons_cons | apply List.Sublist.cons))
  by_cases n3 : 100 < l3.length
  · refine m_run ?_
    (apply TL.callV; exact rfl; exact callB_of (by kernel_rfl); exact rfl; exact fun _ h => h)
    exact works5_t _
    rintro _ _ ⟨rfl, rfl⟩
    refine m_run ?_
    (apply TK.retS1; exact rfl; exact rfl; (exact m_val))
    · exact ⟨_, rfl, rfl, rfl⟩
    · (repeat (first | exact List.Sublist.refl _ | apply List.Sublist.cons_cons | apply List.Sublist.cons))
  refine m_run ?_
  (apply TL.callV; exact rfl; exact callB_of (by kernel_rfl); exact rfl; exact fun _ h => h)
  exact compare_t ⟨p1, A1, c1, l1⟩ ⟨p2, A2, c2, l2⟩ _ kf kg (by show l1.length ≤ _; omega)
  rintro _ _ ⟨rfl, rfl⟩
  refine m_run ?_
  (apply TL.callV; exact rfl; exact callB_of (by kernel_rfl); exact rfl; exact fun _ h => h)
  exact compare_t ⟨p2, A2, c2, l2⟩ ⟨p3, A3, c3, l3⟩ _ kg kh (by show l2.length ≤ _; omega)
  rintro _ _ ⟨rfl, rfl⟩
  generalize ha : cmpF ⟨p1, A1, c1, l1⟩ ⟨p2, A2, c2, l2⟩ = a at *
  generalize hb : cmpF ⟨p2, A2, c2, l2⟩ ⟨p3, A3, c3, l3⟩ = b at *
  refine m_rrun ?_
  refine TL.nil ?_
  (repeat (first | refine TK.exit rfl ?_ | refine TK.seq ?_ | refine TK.block ?_ | refine TK.skip ?_ | refine TK.label ?_))
  obtain ⟨Δ, hΔ⟩ : ∃ Δ, row b5 [.int .u32 (p3 : Int), .slice A3 l3.length c3] 26 :: row b4 [.int .u32 (p2 : Int), .slice A2 l2.length c2] 26 :: row b3 [.int .u32 (p1 : Int), .slice A1 l1.length c1] 26 :: Γ = Δ := ⟨_, rfl⟩
  have w1 : has Δ (fun m => cellsAt m b3 0 [.int .u32 (p1 : Int), .slice A1 l1.length c1]) := by rw [← hΔ]; exact has_rows 2 rfl rfl
  have w2 : has Δ (fun m => cellsAt m b4 0 [.int .u32 (p2 : Int), .slice A2 l2.length c2]) := by rw [← hΔ]; exact has_rows 1 rfl rfl
  have w3 : has Δ (fun m => cellsAt m b5 0 [.int .u32 (p3 : Int), .slice A3 l3.length c3]) := by rw [← hΔ]; exact has_rows 0 rfl rfl
  rw [hΔ] at kf kg kh ⊢
  have hsub : List.Sublist Γ Δ := by rw [← hΔ]; (repeat (first | exact List.Sublist.refl _ | apply List.Sublist.cons_cons | apply List.Sublist.cons))
  clear hΔ
  apply TK.cut (fun ρ' Γ' => lk ρ' 3 = .pointer (some ⟨b3, 0, none⟩) ∧ lk ρ' 4 = .pointer (some ⟨b4, 0, none⟩) ∧ lk ρ' 7 = .int .i64 a ∧ lk ρ' 84 = .bool false ∧ Γ' = Δ)
  · intro k' hk'
    refine TK.region ?_
    rcases (by omega : a = -1 ∨ a = 0 ∨ a = 1) with ha1 | ha1 | ha1
    · subst ha1
      have an : cmpF ⟨p2, A2, c2, l2⟩ ⟨p1, A1, c1, l1⟩ = 1 := anti
      rcases (by omega : b = -1 ∨ b = 0 ∨ b = 1) with hb1 | hb1 | hb1
      · subst hb1
        have ac : cmpF ⟨p1, A1, c1, l1⟩ ⟨p3, A3, c3, l3⟩ = -1 := by
          have q1 := g3 (by omega) (by omega)
          have q2 := cmpF_range ⟨p1, A1, c1, l1⟩ ⟨p3, A3, c3, l3⟩
          generalize cmpF ⟨p1, A1, c1, l1⟩ ⟨p3, A3, c3, l3⟩ = e at *
          have q3 : e ≠ 0 := fun e0 => by have := q1.2 e0; omega
          have := q1.1
          omega
        refine m_rrun ?_
        (apply TL.callV; exact rfl; exact callB_of (by kernel_rfl); exact rfl; exact fun _ h => h)
        exact compare_t ⟨p2, A2, c2, l2⟩ ⟨p1, A1, c1, l1⟩ _ kg kf (by show l2.length ≤ _; omega)
        rintro _ _ ⟨rfl, rfl⟩
        rw [an]
        refine m_rrun ?_
        (apply TL.callV; exact rfl; exact callB_of (by kernel_rfl); exact rfl; exact fun _ h => h)
        exact compare_t ⟨p1, A1, c1, l1⟩ ⟨p3, A3, c3, l3⟩ _ kf kh (by show l1.length ≤ _; omega)
        rintro _ _ ⟨rfl, rfl⟩
        rw [ac]
        refine m_rrun ?_
        (apply TL.callV; exact rfl; exact callB_of (by kernel_rfl); exact rfl; exact fun _ h => h)
        exact compare_t ⟨p1, A1, c1, l1⟩ ⟨p3, A3, c3, l3⟩ _ kf kh (by show l1.length ≤ _; omega)
        rintro _ _ ⟨rfl, rfl⟩
        rw [ac]
        refine m_rrun ?_
        refine TL.nil ?_
        exact hk' _ _ ⟨rfl, rfl, rfl, rfl, rfl⟩
      · subst hb1
        have ac : cmpF ⟨p1, A1, c1, l1⟩ ⟨p3, A3, c3, l3⟩ = -1 := by
          have q1 := g3 (by omega) (by omega)
          have q2 := cmpF_range ⟨p1, A1, c1, l1⟩ ⟨p3, A3, c3, l3⟩
          generalize cmpF ⟨p1, A1, c1, l1⟩ ⟨p3, A3, c3, l3⟩ = e at *
          have q3 : e ≠ 0 := fun e0 => by have := q1.2 e0; omega
          have := q1.1
          omega
        refine m_rrun ?_
        (apply TL.callV; exact rfl; exact callB_of (by kernel_rfl); exact rfl; exact fun _ h => h)
        exact compare_t ⟨p2, A2, c2, l2⟩ ⟨p1, A1, c1, l1⟩ _ kg kf (by show l2.length ≤ _; omega)
        rintro _ _ ⟨rfl, rfl⟩
        rw [an]
        refine m_rrun ?_
        (apply TL.callV; exact rfl; exact callB_of (by kernel_rfl); exact rfl; exact fun _ h => h)
        exact compare_t ⟨p1, A1, c1, l1⟩ ⟨p3, A3, c3, l3⟩ _ kf kh (by show l1.length ≤ _; omega)
        rintro _ _ ⟨rfl, rfl⟩
        rw [ac]
        refine m_rrun ?_
        (apply TL.callV; exact rfl; exact callB_of (by kernel_rfl); exact rfl; exact fun _ h => h)
        exact compare_t ⟨p1, A1, c1, l1⟩ ⟨p3, A3, c3, l3⟩ _ kf kh (by show l1.length ≤ _; omega)
        rintro _ _ ⟨rfl, rfl⟩
        rw [ac]
        refine m_rrun ?_
        refine TL.nil ?_
        exact hk' _ _ ⟨rfl, rfl, rfl, rfl, rfl⟩
      · subst hb1
        refine m_rrun ?_
        (apply TL.callV; exact rfl; exact callB_of (by kernel_rfl); exact rfl; exact fun _ h => h)
        exact compare_t ⟨p2, A2, c2, l2⟩ ⟨p1, A1, c1, l1⟩ _ kg kf (by show l2.length ≤ _; omega)
        rintro _ _ ⟨rfl, rfl⟩
        rw [an]
        refine m_rrun ?_
        refine TL.nil ?_
        exact hk' _ _ ⟨rfl, rfl, rfl, rfl, rfl⟩
    · subst ha1
      have an : cmpF ⟨p2, A2, c2, l2⟩ ⟨p1, A1, c1, l1⟩ = 0 := anti
      rcases (by omega : b = -1 ∨ b = 0 ∨ b = 1) with hb1 | hb1 | hb1
      · subst hb1
        have ac : cmpF ⟨p1, A1, c1, l1⟩ ⟨p3, A3, c3, l3⟩ = -1 := by
          have q1 := g3 (by omega) (by omega)
          have q2 := cmpF_range ⟨p1, A1, c1, l1⟩ ⟨p3, A3, c3, l3⟩
          generalize cmpF ⟨p1, A1, c1, l1⟩ ⟨p3, A3, c3, l3⟩ = e at *
          have q3 : e ≠ 0 := fun e0 => by have := q1.2 e0; omega
          have := q1.1
          omega
        refine m_rrun ?_
        (apply TL.callV; exact rfl; exact callB_of (by kernel_rfl); exact rfl; exact fun _ h => h)
        exact compare_t ⟨p2, A2, c2, l2⟩ ⟨p1, A1, c1, l1⟩ _ kg kf (by show l2.length ≤ _; omega)
        rintro _ _ ⟨rfl, rfl⟩
        rw [an]
        refine m_rrun ?_
        (apply TL.callV; exact rfl; exact callB_of (by kernel_rfl); exact rfl; exact fun _ h => h)
        exact compare_t ⟨p1, A1, c1, l1⟩ ⟨p3, A3, c3, l3⟩ _ kf kh (by show l1.length ≤ _; omega)
        rintro _ _ ⟨rfl, rfl⟩
        rw [ac]
        refine m_rrun ?_
        (apply TL.callV; exact rfl; exact callB_of (by kernel_rfl); exact rfl; exact fun _ h => h)
        exact compare_t ⟨p1, A1, c1, l1⟩ ⟨p3, A3, c3, l3⟩ _ kf kh (by show l1.length ≤ _; omega)
        rintro _ _ ⟨rfl, rfl⟩
        rw [ac]
        refine m_rrun ?_
        refine TL.nil ?_
        exact hk' _ _ ⟨rfl, rfl, rfl, rfl, rfl⟩
      · subst hb1
        have ac : cmpF ⟨p1, A1, c1, l1⟩ ⟨p3, A3, c3, l3⟩ = 0 := by
          have y1 := cmpF_zero.1 ha
          have y2 := cmpF_zero.1 hb
          exact cmpF_zero.2 ⟨y1.1.trans y2.1, y1.2.trans y2.2⟩
        refine m_rrun ?_
        (apply TL.callV; exact rfl; exact callB_of (by kernel_rfl); exact rfl; exact fun _ h => h)
        exact compare_t ⟨p2, A2, c2, l2⟩ ⟨p1, A1, c1, l1⟩ _ kg kf (by show l2.length ≤ _; omega)
        rintro _ _ ⟨rfl, rfl⟩
        rw [an]
        refine m_rrun ?_
        (apply TL.callV; exact rfl; exact callB_of (by kernel_rfl); exact rfl; exact fun _ h => h)
        exact compare_t ⟨p1, A1, c1, l1⟩ ⟨p3, A3, c3, l3⟩ _ kf kh (by show l1.length ≤ _; omega)
        rintro _ _ ⟨rfl, rfl⟩
        rw [ac]
        refine m_rrun ?_
        refine TL.nil ?_
        exact hk' _ _ ⟨rfl, rfl, rfl, rfl, rfl⟩
      · subst hb1
        refine m_rrun ?_
        (apply TL.callV; exact rfl; exact callB_of (by kernel_rfl); exact rfl; exact fun _ h => h)
        exact compare_t ⟨p2, A2, c2, l2⟩ ⟨p1, A1, c1, l1⟩ _ kg kf (by show l2.length ≤ _; omega)
        rintro _ _ ⟨rfl, rfl⟩
        rw [an]
        refine m_rrun ?_
        refine TL.nil ?_
        exact hk' _ _ ⟨rfl, rfl, rfl, rfl, rfl⟩
    · subst ha1
      have an : cmpF ⟨p2, A2, c2, l2⟩ ⟨p1, A1, c1, l1⟩ = -1 := anti
      refine m_rrun ?_
      (apply TL.callV; exact rfl; exact callB_of (by kernel_rfl); exact rfl; exact fun _ h => h)
      exact compare_t ⟨p2, A2, c2, l2⟩ ⟨p1, A1, c1, l1⟩ _ kg kf (by show l2.length ≤ _; omega)
      rintro _ _ ⟨rfl, rfl⟩
      rw [an]
      refine m_rrun ?_
      refine TL.nil ?_
      exact hk' _ _ ⟨rfl, rfl, rfl, rfl, rfl⟩
  · rintro ρ' Δ ⟨e3, e4, e7, e84, rfl⟩
    refine TK.know4 e3 e4 e7 e84 ?_
    refine m_run ?_
    (apply TL.callV; exact rfl; exact callB_of (by kernel_rfl); exact rfl; exact fun _ h => h)
    exact lift_t ⟨p1, A1, c1, l1⟩ _ kf (by show l1.length ≤ _; omega)
    rintro _ _ ⟨B, k, hk, rfl, rfl⟩
    replace hk : l1.length ≤ k := hk
    have hml := lift_len l1
    refine m_run ?_
    (apply TL.alloc; exact rfl; exact tb rfl; (exact m_lst))
    intro b9
    refine m_rrun ?_
    refine TL.imp (Δ := row b9 [.int .u32 (p1 : Int), .slice B (liftT l1).length k] 42 :: own 54 2 (.slice B l1.length k) l1.length (tmsC (liftT l1)) :: Δ) (fun _ h => h) ?_
    have oA : Atm.ok ⟨p1, B, k, liftT l1⟩ (row b9 [.int .u32 (p1 : Int), .slice B (liftT l1).length k] 42 :: own 54 2 (.slice B l1.length k) l1.length (tmsC (liftT l1)) :: Δ) := ⟨by show has _ (srcAt 2 B (liftT l1).length (tmsC (liftT l1))); rw [hml]; exact has_at (up_src _ _ _ _) 1 rfl fun _ h => own_src h, by show (liftT l1).length ≤ k; omega⟩
    refine m_run ?_
    (apply TL.callV; exact rfl; exact callB_of (by kernel_rfl); exact rfl; exact fun _ h => h)
    exact of_t ⟨p1, B, k, liftT l1⟩ _ oA (by show (liftT l1).length ≤ _; omega)
    rintro _ _ (⟨_, B2, k2, hk2, rfl, rfl⟩ | ⟨hno, _⟩)
    rotate_left
    · exact absurd (hno.symm.trans (lift_ground l1)) (by decide)
    replace hk2 : (liftT l1).length ≤ k2 := hk2
    rw [lift_back]
    refine m_run ?_
    (apply TL.alloc; exact rfl; exact tb rfl; (exact m_lst))
    intro b10
    refine m_rrun ?_
    refine TL.imp (Δ := row b10 [.int .u32 (p1 : Int), .slice B2 l1.length k2] 26 :: own 23 1 (.slice B2 l1.length k2) l1.length (u32s l1) :: row b9 [.int .u32 (p1 : Int), .slice B (liftT l1).length k] 42 :: own 54 2 (.slice B l1.length k) l1.length (tmsC (liftT l1)) :: Δ) (fun m h => by simp only [hml] at h; rw [hml]; exact h) ?_
    obtain ⟨Ω, hΩ⟩ : ∃ Ω, row b10 [.int .u32 (p1 : Int), .slice B2 l1.length k2] 26 :: own 23 1 (.slice B2 l1.length k2) l1.length (u32s l1) :: row b9 [.int .u32 (p1 : Int), .slice B (liftT l1).length k] 42 :: own 54 2 (.slice B l1.length k) l1.length (tmsC (liftT l1)) :: Δ = Ω := ⟨_, rfl⟩
    have hsub2 : Δ.Sublist Ω := by rw [← hΩ]; (repeat (first | exact List.Sublist.refl _ | apply List.Sublist.cons_cons | apply List.Sublist.cons))
    have x10 : has Ω (fun m => cellsAt m b10 0 [.int .u32 (p1 : Int), .slice B2 l1.length k2]) := by rw [← hΩ]; exact has_rows 0 rfl rfl
    have x9 : has Ω (fun m => cellsAt m b9 0 [.int .u32 (p1 : Int), .slice B (liftT l1).length k]) := by rw [← hΩ]; exact has_rows 2 rfl rfl
    have x3 : has Ω (fun m => cellsAt m b3 0 [.int .u32 (p1 : Int), .slice A1 l1.length c1]) := by rw [← hΩ]; exact has_tlg (has_tlg (has_tlg (has_tlg w1)))
    have x4 : has Ω (fun m => cellsAt m b4 0 [.int .u32 (p2 : Int), .slice A2 l2.length c2]) := by rw [← hΩ]; exact has_tlg (has_tlg (has_tlg (has_tlg w2)))
    have y10 : Fct.ok ⟨p1, B2, k2, l1⟩ Ω := by rw [← hΩ]; exact ⟨has_at (up_src _ _ _ _) 1 rfl fun _ h => own_src h, by show l1.length ≤ k2; omega⟩
    have y9 : Atm.ok ⟨p1, B, k, liftT l1⟩ Ω := by rw [← hΩ]; exact Atm.ok_tl (Atm.ok_tl oA)
    have y3 : Fct.ok ⟨p1, A1, c1, l1⟩ Ω := by rw [← hΩ]; exact Fct.ok_tl (Fct.ok_tl (Fct.ok_tl (Fct.ok_tl kf)))
    have y4 : Fct.ok ⟨p2, A2, c2, l2⟩ Ω := by rw [← hΩ]; exact Fct.ok_tl (Fct.ok_tl (Fct.ok_tl (Fct.ok_tl kg)))
    rw [hΩ]
    clear hΩ
    refine m_run ?_
    (apply TL.callV; exact rfl; exact callB_of (by kernel_rfl); exact rfl; exact fun _ h => h)
    exact compare_t ⟨p1, B2, k2, l1⟩ ⟨p1, A1, c1, l1⟩ _ y10 y3 (by show l1.length ≤ _; omega)
    rintro _ _ ⟨rfl, rfl⟩
    rw [show cmpF ⟨p1, B2, k2, l1⟩ ⟨p1, A1, c1, l1⟩ = 0 from cmpF_zero.2 ⟨rfl, rfl⟩]
    refine m_run ?_
    (apply TL.callV; exact rfl; exact callB_of (by kernel_rfl); exact rfl; exact fun _ h => h)
    exact ground_t ⟨p1, B, k, liftT l1⟩ _ y9 (by show (liftT l1).length ≤ _; omega)
    rintro _ _ ⟨rfl, rfl⟩
    rw [show groundA (Atm.l ⟨p1, B, k, liftT l1⟩) = true from lift_ground l1]
    refine m_run ?_
    (apply TL.callV; exact rfl; exact callB_of (by kernel_rfl); exact rfl; exact fun _ h => h)
    exact vars_t ⟨p1, B, k, liftT l1⟩ _ y9 (by show (liftT l1).length ≤ _; omega) (by show (varsOf (liftT l1)).length ≤ _; rw [lift_vars]; exact Nat.zero_le _)
    rintro _ _ ⟨D, B3, k3, hD, _, _, rfl, rfl⟩
    obtain rfl : D = [] := by
      have : (varsOf (Atm.l ⟨p1, B, k, liftT l1⟩)) = [] := lift_vars l1
      rw [this] at hD
      exact hD.eq_nil
    refine TL.sub (Δ := _) (List.sublist_cons_self _ _) ?_
    refine m_rrun ?_
    (apply TL.callV; exact rfl; exact callB_of (by kernel_rfl); exact rfl; exact fun _ h => h)
    exact match_t ⟨p1, B, k, liftT l1⟩ ⟨p1, A1, c1, l1⟩ _ y9 y3 (by show (liftT l1).length ≤ _; omega) (fun t ht hv => absurd hv (by obtain ⟨n, _, rfl⟩ := List.mem_map.1 ht; simp))
    rintro _ _ ⟨rfl, rfl⟩
    rw [show matA ⟨p1, B, k, liftT l1⟩ ⟨p1, A1, c1, l1⟩ = true by
      unfold matA
      simp only [hml, lift_match l1 l1 rfl, decide_true, Bool.and_true]]
    refine m_rrun ?_
    (apply TL.callV; exact rfl; exact callB_of (by kernel_rfl); exact rfl; exact fun _ h => h)
    exact match_t ⟨p1, B, k, liftT l1⟩ ⟨p2, A2, c2, l2⟩ _ y9 y4 (by show (liftT l1).length ≤ _; omega) (fun t ht hv => absurd hv (by obtain ⟨n, _, rfl⟩ := List.mem_map.1 ht; simp))
    rintro _ _ ⟨rfl, rfl⟩
    rw [show matA ⟨p1, B, k, liftT l1⟩ ⟨p2, A2, c2, l2⟩ = decide (a = 0) by
      unfold matA
      by_cases e0 : a = 0
      · obtain ⟨q1, q2⟩ := z1.1 e0
        simp only [] at q1 q2
        simp only [lift_len, q1, q2, lift_match l2 l2 rfl, decide_true, Bool.and_true, e0]
      · rw [decide_eq_false e0]
        by_cases q1 : p1 = p2
        · by_cases q2 : l1.length = l2.length
          · have q3 : l1 ≠ l2 := fun e => e0 (z1.2 ⟨q1, e⟩)
            simp only [hml, lift_match l1 l2 q2, decide_eq_false q3, Bool.and_false]
          · simp only [hml, decide_eq_false q2, Bool.false_and, Bool.and_false]
        · simp only [decide_eq_false q1, Bool.false_and]]
    rcases (by omega : a = -1 ∨ a = 0 ∨ a = 1) with ha1 | ha1 | ha1
    · subst ha1
      refine m_rrun ?_
      (apply TL.callV; exact rfl; exact callB_of (by kernel_rfl); exact rfl; exact fun _ h => h)
      exact works5_t _
      rintro _ _ ⟨rfl, rfl⟩
      refine m_run ?_
      (apply TK.retS1; exact rfl; exact rfl; (exact m_val))
      · exact ⟨_, rfl, rfl, rfl⟩
      · exact List.Sublist.trans hsub hsub2
    · subst ha1
      refine m_rrun ?_
      (apply TL.callV; exact rfl; exact callB_of (by kernel_rfl); exact rfl; exact fun _ h => h)
      exact works5_t _
      rintro _ _ ⟨rfl, rfl⟩
      refine m_run ?_
      (apply TK.retS1; exact rfl; exact rfl; (exact m_val))
      · exact ⟨_, rfl, rfl, rfl⟩
      · exact List.Sublist.trans hsub hsub2
    · subst ha1
      refine m_rrun ?_
      (apply TL.callV; exact rfl; exact callB_of (by kernel_rfl); exact rfl; exact fun _ h => h)
      exact works5_t _
      rintro _ _ ⟨rfl, rfl⟩
      refine m_run ?_
      (apply TK.retS1; exact rfl; exact rfl; (exact m_val))
      · exact ⟨_, rfl, rfl, rfl⟩
      · exact List.Sublist.trans hsub hsub2
/-! ### how facts are read -/
theorem u32s_flat (l : List Nat) : l.flatMap rU32.cells = u32s l := by
  induction l with
  | nil => rfl
  | cons x l ih => rw [List.flatMap_cons, ih]; rfl
def fctAt (f : Fct) (m : Mem) : Prop := f.p ≤ 4294967295 ∧ f.l.length ≤ f.c ∧ srcAt 1 f.A f.l.length (u32s f.l) m ∧ ∀ n ∈ f.l, n ≤ 4294967295
def rFct : Rd Fct := ⟨2, Fct.cells, fctAt⟩
theorem reads_u32s : Reads Try.prog 24 (rSl rU32) := reads_sl reads_u32 (tb rfl) rfl rfl
theorem reads_fct : Reads Try.prog 26 rFct :=
  have ht : TabOk Try.prog 26 _ := tb rfl
  ⟨by rw [ht.cellsOf]; rfl, fun _ => rfl, fun a x y hxy h => ⟨h.1, h.2.1, up_src _ _ _ _ x y hxy h.2.2.1, h.2.2.2⟩, fun enc w fuel cs x h => by
    obtain ⟨p, h1, h2⟩ := read_field ht rfl h (R := rU32) 0 _ rfl reads_u32
    obtain ⟨s, h3, h4⟩ := read_field ht rfl h (R := rSl rU32) 1 _ rfl reads_u32s
    exact ⟨⟨p, s.A, s.c, s.l⟩, cut2 h1 h3 (trod_field ht rfl h).1 rfl, h2, h4.1, (by have := h4.2.2.1; rwa [u32s_flat] at this), h4.2.2.2⟩⟩
theorem fct_exact {f : Fct} {W : World} (h : fctAt f (memOf W)) : f.ok [exact_ W] := ⟨has_exact h.2.2.1, h.2.1⟩
end Go.Proofs.Ytokggdgagfmacaa.E
