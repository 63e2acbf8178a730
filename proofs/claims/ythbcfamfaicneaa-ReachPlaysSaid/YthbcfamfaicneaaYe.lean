/- Which credentials may be, as the program tells it: rule, give, May, walked. -/
import Derived.Test.YthbcfamfaicneaaYd
namespace Go.Proofs.Ythbcfamfaicneaa.E
open Go Go.RowKit Go.Proofs
attribute [local irreducible] TK TL TQ TA TB Fn PV
def Cr.few (c : Cr) : Prop := c.r.l.length ≤ 30 ∧ c.r.h.a.l.length ≤ 30 ∧ ∀ x ∈ c.r.l, x.y.a.l.length ≤ 30
abbrev crRow (b : Nat) (c : Cr) : HP := row b [.int .u32 (c.iss : Int), .int .u64 (c.ser : Int), .int .u64 (c.frm : Int), .int .u64 (c.til : Int), .int .u8 (c.kind : Int), .bool c.r.h.s, .bool c.r.h.w.v, .int .u32 (c.r.h.w.n : Int), .int .u32 (c.r.h.a.p : Int), .slice c.r.h.a.A c.r.h.a.l.length c.r.h.a.c, .slice c.r.A c.r.l.length c.r.c, .int .u32 (c.p : Int), .int .i64 c.args, .int .u32 (c.to : Int), .int .i64 c.dep] 48
theorem all_comp {D l : List Nat} (h : D.Perm l) (p : Nat → Bool) : (compL D).any p = l.any p := by
  rw [Bool.eq_iff_iff, List.any_eq_true, List.any_eq_true]
  constructor
  · rintro ⟨x, hx, hp⟩
    exact ⟨x, h.mem_iff.1 ((compL_mem D x).1 hx), hp⟩
  · rintro ⟨x, hx, hp⟩
    exact ⟨x, (compL_mem D x).2 (h.mem_iff.2 hx), hp⟩
theorem held_rule (c : Cr) (M : List Lt) (W : List Nat) (hpm : M.map pureL = c.r.l.map fun x => (false, x.y.a.p, x.y.w :: x.y.a.l)) (hW : ∀ v, v ∈ W ↔ ∃ x ∈ M, v ∈ varsOf x.a.l) : heldP (ruleC c) = !((varsOf (⟨false, c.iss⟩ :: c.r.h.a.l)).any fun v => !decide (v ∈ W)) := by
  have hL : ruleC c = (c.r.h.a.p, ⟨false, c.iss⟩ :: c.r.h.a.l, M.map pureL) := by rw [hpm]; rfl
  have hno : ∀ y ∈ M.map pureL, y.1 = false := fun y hy => by
    rw [hpm] at hy
    obtain ⟨x, _, rfl⟩ := List.mem_map.1 hy
    rfl
  have hpos : ∀ v, v ∈ posP (M.map pureL) ↔ v ∈ W := fun v => by
    rw [hW]
    unfold posP
    rw [List.mem_flatMap]
    constructor
    · rintro ⟨y, hy, hv⟩
      obtain ⟨x, hx, rfl⟩ := List.mem_map.1 (List.mem_filter.1 hy).1
      exact ⟨x, hx, hv⟩
    · rintro ⟨x, hx, hv⟩
      have hxm : pureL x ∈ M.map pureL := List.mem_map.2 ⟨x, hx, rfl⟩
      exact ⟨_, List.mem_filter.2 ⟨hxm, by rw [hno _ hxm]; rfl⟩, hv⟩
  rw [hL]
  unfold heldP
  simp only
  have hf : (M.map pureL).filter (fun x => x.1 == true) = [] := List.filter_eq_nil_iff.2 fun y hy => by rw [hno y hy]; decide
  rw [hf, List.all_nil, Bool.and_true]
  unfold heldA
  rw [Bool.eq_iff_iff, List.all_eq_true, Bool.not_eq_true', List.any_eq_false]
  simp only [decide_eq_true_eq, Bool.not_eq_true', decide_eq_false_iff_not, Classical.not_not]
  exact forall_congr' fun v => forall_congr' fun _ => hpos v
set_option maxRecDepth 100000 in
set_option maxHeartbeats 8000000 in
theorem rule_t (c : Cr) (Γ : List HP) (h : c.ok Γ) (hn : c.few) : FnV Try.prog 48 [.agg c.cells.toArray] Γ fun v Γ' => v = .bool (ruleB c) ∧ Γ' = Γ := by
  refine Fn.enter Try.func48 rfl rfl rfl fun E => ?_
  refine m_run ?_
  (apply TL.box; exact rfl; exact rfl; (exact m_lst))
  intro b1
  refine TL.imp (Δ := crRow b1 c :: Γ) (fun _ h => h) ?_
  have hby : has (crRow b1 c :: Γ) (fun m => cellsAt m b1 5 c.r.h.cells) := has_rows 0 rfl rfl
  have hba : has (crRow b1 c :: Γ) (fun m => cellsAt m b1 8 c.r.h.a.cells) := has_rows 0 rfl rfl
  have hh30 : c.r.h.a.l.length ≤ 30 := hn.2.1
  have hl30 : c.r.l.length ≤ 30 := hn.1
  refine m_run ?_
  (apply TL.callV; exact rfl; exact callB_of (by kernel_rfl); exact rfl; exact fun _ h => h)
  exact plain_t c.r.h _
  rintro _ _ ⟨rfl, rfl⟩
  by_cases hpl : plainS c.r.h = true ∧ c.p = 0 ∧ c.args = 0 ∧ c.to = 0 ∧ c.dep = 0
  rotate_left
  · have hno : ruleB c = false := by
      unfold ruleB
      rw [← Bool.not_eq_true]
      simp only [Bool.and_eq_true, decide_eq_true_eq]
      rintro ⟨⟨⟨⟨⟨⟨⟨h1, h2⟩, h3⟩, h4⟩, h5⟩, _⟩, _⟩, _⟩
      exact hpl ⟨h1, h2, h3, h4, h5⟩
    rw [hno]
    cases hp0 : plainS c.r.h with
    | false =>
      refine m_run ?_
      (apply TK.retS1; exact rfl; exact rfl; (exact m_val))
      exact ⟨_, rfl, rfl, rfl⟩
      (repeat (first | exact List.Sublist.refl _ | apply List.Sublist.cons_cons | apply List.Sublist.cons))
    | true =>
    by_cases h1 : c.p = 0
    · by_cases h2 : c.args = 0
      · by_cases h3 : c.to = 0
        · have h4 : c.dep ≠ 0 := fun h4 => hpl ⟨hp0, h1, h2, h3, h4⟩
          have h4' : (c.dep != 0) = true := by simpa using h4
          refine m_run ?_
          (apply TK.retS1; exact rfl; exact rfl; (exact m_val))
          exact ⟨_, rfl, rfl, rfl⟩
          (repeat (first | exact List.Sublist.refl _ | apply List.Sublist.cons_cons | apply List.Sublist.cons))
        · refine m_run ?_
          (apply TK.retS1; exact rfl; exact rfl; (exact m_val))
          exact ⟨_, rfl, rfl, rfl⟩
          (repeat (first | exact List.Sublist.refl _ | apply List.Sublist.cons_cons | apply List.Sublist.cons))
      · have h2' : (c.args != 0) = true := by simpa using h2
        refine m_run ?_
        (apply TK.retS1; exact rfl; exact rfl; (exact m_val))
        exact ⟨_, rfl, rfl, rfl⟩
        (repeat (first | exact List.Sublist.refl _ | apply List.Sublist.cons_cons | apply List.Sublist.cons))
    · refine m_run ?_
      (apply TK.retS1; exact rfl; exact rfl; (exact m_val))
      exact ⟨_, rfl, rfl, rfl⟩
      (repeat (first | exact List.Sublist.refl _ | apply List.Sublist.cons_cons | apply List.Sublist.cons))
  obtain ⟨hp1, hp2, hp3, hp4, hp5⟩ := hpl
  rw [hp1]
  have hp3' : (c.args != 0) = false := by simp [hp3]
  have hp5' : (c.dep != 0) = false := by simp [hp5]
  refine m_run ?_
  (apply TL.pv; exact rfl; (apply PV.build tabs; exact rfl; exact rfl; exact rfl; exact rfl; exact rfl; exact (rfl : _ = tmC ⟨false, c.iss⟩)))
  refine m_run ?_
  (apply TL.callV; exact rfl; exact callB_of (by kernel_rfl); exact rfl; exact fun _ h => h)
  exact flat_t ⟨false, c.iss⟩ c.r.h.a _ (Atm.ok_tl h.1) (Nat.le_trans hh30 (by decide))
  rintro _ _ ⟨Bh, kh, hkh, rfl, rfl⟩
  refine m_run ?_
  (apply TL.pv; exact rfl; (apply PV.build tabs; exact rfl; exact rfl; exact rfl; exact rfl; exact rfl; exact (rfl : _ = ([.int .u32 (c.r.h.a.p : Int), .slice Bh ((⟨false, c.iss⟩ : Tm) :: c.r.h.a.l).length kh, .slice none 0 0] : List Value))))
  (apply TL.alloc; exact rfl; exact tb rfl; exact (rfl : _ = [_, _, _]))
  intro b3
  refine m_run ?_
  (apply TL.alloc; exact rfl; exact tb rfl; exact (rfl : _ = [_]))
  intro b4
  refine TL.imp (Δ := row b4 [.slice none 0 0] 32 :: row b3 [.int .u32 (c.r.h.a.p : Int), .slice Bh ((⟨false, c.iss⟩ : Tm) :: c.r.h.a.l).length kh, .slice none 0 0] 68 :: ownTm Bh kh (⟨false, c.iss⟩ :: c.r.h.a.l) :: crRow b1 c :: Γ) (fun _ h => h) ?_
  refine m_run ?_
  refine TK.free (H := own 70 3 (.slice none 0 0) 0 []) (fun m hm => own_nil _ _ hm) ?_
  refine TK.perm (.swap _ _ _) ?_
  refine TK.free (H := own 31 1 (.slice none 0 0) 0 []) (fun m hm => own_nil _ _ hm) ?_
  have hcr : Rl.ok c.r Γ := h
  apply TK.iter (fun j ρ' Γ' => ∃ (i : Nat) (D : Option Addr) (kd : Nat) (M : List Lt) (H : Option Addr) (kw : Nat) (W : List Nat) (Γ2 : List HP), c.r.l.length = i + j ∧ Γ.Sublist Γ2 ∧ c.ok Γ2 ∧ Atm.ok ⟨c.r.h.a.p, Bh, kh, ⟨false, c.iss⟩ :: c.r.h.a.l⟩ Γ2 ∧ (∀ x ∈ M, x.a.ok Γ2 ∧ x.a.l.length ≤ 31) ∧ M.map pureL = (c.r.l.take i).map (fun x => (false, x.y.a.p, x.y.w :: x.y.a.l)) ∧ i ≤ kd ∧ (∀ v, v ∈ W ↔ ∃ x ∈ M, v ∈ varsOf x.a.l) ∧ W.length ≤ i * 31 ∧ ((c.r.l.take i).all fun x => !x.no && x.y.s) = true ∧ lk ρ' 3 = .pointer (some ⟨b3, 0, none⟩) ∧ lk ρ' 4 = .pointer (some ⟨b4, 0, none⟩) ∧ lk ρ' 44 = .slice c.r.A c.r.l.length c.r.c ∧ lk ρ' 45 = .int .i64 (c.r.l.length : Int) ∧ lk ρ' 46 = .int .i64 (i : Int) ∧ Γ' = own 31 1 (.slice H W.length kw) W.length (u32s W) :: row b4 [.slice H W.length kw] 32 :: own 70 3 (.slice D i kd) i (ltsC M) :: row b3 [.int .u32 (c.r.h.a.p : Int), .slice Bh ((⟨false, c.iss⟩ : Tm) :: c.r.h.a.l).length kh, .slice D i kd] 68 :: Γ2) c.r.l.length
  · exact ⟨0, none, 0, [], none, 0, [], ownTm Bh kh (⟨false, c.iss⟩ :: c.r.h.a.l) :: crRow b1 c :: Γ, by omega, .cons _ (.cons _ (.refl _)), Cr.ok_tl (Cr.ok_tl h), ⟨has_at (up_src _ _ _ _) 0 rfl fun _ h => own_src h, hkh⟩, by simp, rfl, Nat.le_refl _, by simp, by simp, rfl, rfl, rfl, rfl, rfl, rfl, rfl⟩
  rintro j IH ρ' _ ⟨i, D, kd, M, H, kw, W, Γ2, hj, hsub, hco, hho, hM, hpm, hkd, hW, hWl, hall, e3, e4, e44, e45, e46, rfl⟩
  refine TK.know5 e3 e4 e44 e45 e46 ?_
  have hMl : M.length = i := by have := congrArg List.length hpm; simp at this; omega
  by_cases hi : i < c.r.l.length
  · obtain ⟨⟨no, ⟨said, who, a⟩⟩, hx⟩ : ∃ x, c.r.l[i]? = some x := ⟨c.r.l[i], List.getElem?_eq_getElem hi⟩
    have hxm := List.mem_of_getElem? hx
    have ha30 : a.l.length ≤ 30 := hn.2.2 _ hxm
    have hao : a.ok Γ2 := hco.2.2.2 _ hxm
    have hcd0 : has Γ2 (srcAt 6 c.r.A c.r.l.length (cdsC c.r.l)) := hco.2.1
    refine TK.mem fun m0 hm0 => ?_
    obtain ⟨g, u, hgA⟩ := src_some ((has_tls (has_tls (has_tls (has_tls hcd0))) : has (_ :: _ :: _ :: _ :: Γ2) _) m0 hm0) (by rw [cdsC_len]; omega)
    clear hm0 m0
    rw [hgA] at hcd0
    refine TK.know (t := 44) (v := .slice (some ⟨g, u, none⟩) c.r.l.length c.r.c) (by rw [← hgA]; rfl) ?_
    have hel : has Γ2 (fun m => cellsAt m g (u + i * 6) [.bool no, .bool said, .bool who.v, .int .u32 (who.n : Int), .int .u32 (a.p : Int), .slice a.A a.l.length a.c]) := has_el (sz := 6) (f := Cd.cells) (fun _ => rfl) (by decide) hcd0 hx
    have hbad : no = true ∨ said = false → ruleB c = false := fun hb => by
      unfold ruleB
      rw [← Bool.not_eq_true]
      simp only [Bool.and_eq_true, List.all_eq_true]
      rintro ⟨⟨⟨_, h1⟩, _⟩, _⟩
      have := h1 _ hxm
      rcases hb with hb | hb <;> simp [hb] at this
    refine m_run ?_
    (apply TL.alloc; exact rfl; exact tb rfl; exact (rfl : _ = [_, _, _, _, _, _]))
    intro b6
    cases no with
    | true =>
      refine m_run ?_
      (apply TK.retS1; exact rfl; exact rfl; (exact m_val))
      exact ⟨_, rfl, congrArg Value.bool (hbad (.inl rfl)).symm, rfl⟩
      exact List.Sublist.cons _ (.cons _ (.cons _ (.cons _ (.cons _ hsub))))
    | false =>
    cases said with
    | false =>
      refine m_run ?_
      (apply TK.retS1; exact rfl; exact rfl; (exact m_val))
      exact ⟨_, rfl, congrArg Value.bool (hbad (.inr rfl)).symm, rfl⟩
      exact List.Sublist.cons _ (.cons _ (.cons _ (.cons _ (.cons _ hsub))))
    | true =>
    have hbw : has (row b6 [.bool false, .bool true, .bool who.v, .int .u32 (who.n : Int), .int .u32 (a.p : Int), .slice a.A a.l.length a.c] 97 :: own 31 1 (.slice H W.length kw) W.length (u32s W) :: row b4 [.slice H W.length kw] 32 :: own 70 3 (.slice D i kd) i (ltsC M) :: row b3 [.int .u32 (c.r.h.a.p : Int), .slice Bh ((⟨false, c.iss⟩ : Tm) :: c.r.h.a.l).length kh, .slice D i kd] 68 :: Γ2) (fun m => cellsAt m b6 2 (tmC who)) := has_rows 0 rfl rfl
    have hbx : has (row b6 [.bool false, .bool true, .bool who.v, .int .u32 (who.n : Int), .int .u32 (a.p : Int), .slice a.A a.l.length a.c] 97 :: own 31 1 (.slice H W.length kw) W.length (u32s W) :: row b4 [.slice H W.length kw] 32 :: own 70 3 (.slice D i kd) i (ltsC M) :: row b3 [.int .u32 (c.r.h.a.p : Int), .slice Bh ((⟨false, c.iss⟩ : Tm) :: c.r.h.a.l).length kh, .slice D i kd] 68 :: Γ2) (fun m => cellsAt m b6 4 a.cells) := has_rows 0 rfl rfl
    refine m_run ?_
    (apply TL.callV; exact rfl; exact callB_of (by kernel_rfl); exact rfl; exact fun _ h => h)
    exact flat_t who a _ (Atm.ok_tl (Atm.ok_tl (Atm.ok_tl (Atm.ok_tl (Atm.ok_tl hao))))) (Nat.le_trans ha30 (by decide))
    rintro _ _ ⟨B7, k7, hk7, rfl, rfl⟩
    refine m_run ?_
    (apply TL.alloc; exact rfl; exact tb rfl; exact (rfl : _ = [_, _]))
    intro b7
    refine m_rrun ?_
    refine TL.nil ?_
    obtain ⟨A2, hA2⟩ : ∃ A2 : Atm, A2 = ⟨a.p, B7, k7, who :: a.l⟩ := ⟨_, rfl⟩
    have hA2l : A2.l = who :: a.l := by rw [hA2]
    refine TK.sub (Δ := row b7 (Atm.cells ⟨a.p, B7, k7, who :: a.l⟩) 41 :: ownTm B7 k7 (who :: a.l) :: own 31 1 (.slice H W.length kw) W.length (u32s W) :: row b4 [.slice H W.length kw] 32 :: own 70 3 (.slice D i kd) i (ltsC M) :: row b3 [.int .u32 (c.r.h.a.p : Int), .slice Bh ((⟨false, c.iss⟩ : Tm) :: c.r.h.a.l).length kh, .slice D i kd] 68 :: Γ2) (by (repeat (first | exact List.Sublist.refl _ | apply List.Sublist.cons_cons | apply List.Sublist.cons))) ?_
    refine TK.perm (Δ := row b7 A2.cells 41 :: own 31 1 (.slice H W.length kw) W.length (u32s W) :: row b4 [.slice H W.length kw] 32 :: own 70 3 (.slice D i kd) i (ltsC M) :: row b3 [.int .u32 (c.r.h.a.p : Int), .slice Bh ((⟨false, c.iss⟩ : Tm) :: c.r.h.a.l).length kh, .slice D i kd] 68 :: ownTm B7 k7 (who :: a.l) :: Γ2) (by rw [hA2]; exact .cons _ (List.perm_middle (a := ownTm B7 k7 (who :: a.l)) (l₁ := [own 31 1 (.slice H W.length kw) W.length (u32s W), row b4 [.slice H W.length kw] 32, own 70 3 (.slice D i kd) i (ltsC M), row b3 [.int .u32 (c.r.h.a.p : Int), .slice Bh ((⟨false, c.iss⟩ : Tm) :: c.r.h.a.l).length kh, .slice D i kd] 68]) (l₂ := Γ2)).symm) ?_
    obtain ⟨Γ3, hΓ3⟩ : ∃ Γ3, Γ3 = ownTm B7 k7 (who :: a.l) :: Γ2 := ⟨_, rfl⟩
    have hA2o : A2.ok Γ3 := by rw [hA2, hΓ3]; exact ⟨has_at (up_src _ _ _ _) 0 rfl fun _ h => own_src h, hk7⟩
    have hsub3 : Γ.Sublist Γ3 := by rw [hΓ3]; exact .cons _ hsub
    have hco3 : c.ok Γ3 := by rw [hΓ3]; exact Cr.ok_tl hco
    have hho3 : Atm.ok ⟨c.r.h.a.p, Bh, kh, ⟨false, c.iss⟩ :: c.r.h.a.l⟩ Γ3 := by rw [hΓ3]; exact Atm.ok_tl hho
    have hM3 : ∀ x ∈ M, x.a.ok Γ3 ∧ x.a.l.length ≤ 31 := fun x hx => by rw [hΓ3]; exact ⟨Atm.ok_tl (hM x hx).1, (hM x hx).2⟩
    rw [← hΓ3]
    refine m_run ?_
    (apply TL.pv; exact rfl; (apply PV.build tabs; exact rfl; exact rfl; exact rfl; exact rfl; exact rfl; exact (rfl : _ = Lt.cells ⟨false, A2⟩)))
    (apply TL.buildSlice (l := Lt.cells ⟨false, A2⟩); exact rfl; exact tb rfl; exact rfl; exact tb rfl; exact rfl; exact rfl; exact rfl; exact rfl; exact rfl)
    intro b69
    refine m_run ?_
    (apply TL.append 4; exact rfl; exact rfl; exact tb rfl; exact rfl; exact tb rfl; exact rfl; exact rfl; exact rfl)
    · exact fun _ h => h
    · exact rfl
    · exact has_src_row 0 rfl rfl
    · exact by intro u hu; simp only [Lt.cells, Atm.cells, List.mem_cons, List.not_mem_nil, or_false] at hu; rcases hu with rfl | rfl | rfl <;> rfl
    · show (i + 1) * 40 ≤ _; omega
    · show i + 1 ≤ maxLen; unfold maxLen; omega
    · exact fun _ => (rfl : _ = _ :: _ :: _ :: _ :: _ :: _)
    intro D2 kd2 hkd2
    rw [show ltsC M ++ Lt.cells ⟨false, A2⟩ = ltsC (M ++ [⟨false, A2⟩]) by simp [ltsC]]
    refine m_run ?_
    refine TK.drop ?_
    refine TK.perm (.swap _ _ _) ?_
    refine TK.drawB mixed rfl 4 (row b7 A2.cells 41 :: row b4 [.slice H W.length kw] 32 :: own 70 3 (.slice D2 (i + 1) kd2) (i + 1) (ltsC (M ++ [⟨false, A2⟩])) :: row b3 [.int .u32 (c.r.h.a.p : Int), .slice Bh ((⟨false, c.iss⟩ : Tm) :: c.r.h.a.l).length kh, .slice D2 (i + 1) kd2] 68 :: Γ3) Γ3 ?_
    refine m_bake (At.mk : At 0) ?_; refine m_bake (At.mk : At 1) ?_
    (apply TB.one 2; kernel_rfl; exact rfl; exact rfl)
    (apply TL.callV; exact rfl; exact callB_of (by kernel_rfl); exact rfl; exact fun _ h => h)
    exact varsG_t A2 _ (Atm.ok_tl (Atm.ok_tl (Atm.ok_tl (Atm.ok_tl (Atm.ok_tl hA2o))))) (by rw [hA2l]; simp; omega)
    rintro _ _ ⟨Dv, Bv, kv, hpv, hsv, hkv, rfl, rfl⟩
    have hmemv : ∀ v, v ∈ compL Dv ↔ v ∈ varsOf A2.l := fun v => (compL_mem Dv v).trans hpv.mem_iff
    have hlenv : (compL Dv).length ≤ 31 := by
      have h1 := compL_len Dv
      have h2 := hpv.length_eq
      have h3 := varsOf_len A2.l
      rw [hA2l] at h3 h2
      simp at h3
      omega
    generalize compL Dv = Cv at *
    refine TL.backB (by (focus ((repeat (first | assumption | exact Ent.refl _ | apply Ent.tail)); done))) ?_
    (apply TB.one 3; kernel_rfl; exact rfl; exact rfl)
    (apply TL.append 1; exact rfl; exact rfl; exact tb rfl; exact rfl; exact tb rfl; exact rfl; exact rfl; exact rfl)
    · exact fun _ h => h
    · exact rfl
    · exact has_at (up_src _ _ _ _) 0 rfl fun _ h => own_src h
    · exact u32s_one Cv
    · show (W.length + Cv.length) * 4 ≤ _; omega
    · show W.length + Cv.length ≤ maxLen; unfold maxLen; omega
    · exact fun _ => (rfl : _ = _ :: _ :: _)
    intro H2 kw2 hkw2
    have hWC : (W ++ Cv).length = W.length + Cv.length := List.length_append
    rw [show u32s W ++ u32s Cv = u32s (W ++ Cv) by simp [u32s], ← hWC]
    refine TL.backB (by (focus ((repeat (first | assumption | exact Ent.refl _ | apply Ent.tail)); done))) ?_
    (apply TB.last; kernel_rfl; exact rfl)
    (apply TL.storeR 3; exact rfl; exact rfl; (exact m_val); exact rfl; exact tb rfl; exact rfl; exact rfl; (exact m_lst); exact (rfl : _ = _ :: _ :: _ :: _ :: _))
    refine TL.back (by (focus ((repeat (first | assumption | exact Ent.refl _ | apply Ent.tail)); done))) ?_
    refine TA.done (by kernel_rfl) ?_
    refine m_run ?_
    refine TK.sub (Δ := own 31 1 (.slice H2 (W ++ Cv).length kw2) (W ++ Cv).length (u32s (W ++ Cv)) :: row b4 [.slice H2 (W ++ Cv).length kw2] 32 :: own 70 3 (.slice D2 (i + 1) kd2) (i + 1) (ltsC (M ++ [⟨false, A2⟩])) :: row b3 [.int .u32 (c.r.h.a.p : Int), .slice Bh ((⟨false, c.iss⟩ : Tm) :: c.r.h.a.l).length kh, .slice D2 (i + 1) kd2] 68 :: Γ3) (by (repeat (first | exact List.Sublist.refl _ | apply List.Sublist.cons_cons | apply List.Sublist.cons))) ?_
    refine IH (j - 1) _ _ (by omega) ⟨i + 1, D2, kd2, M ++ [⟨false, A2⟩], H2, kw2, W ++ Cv, Γ3, by omega, hsub3, hco3, hho3, fun x hx => ?_, ?_, hkd2, fun v => ?_, by omega, ?_, rfl, rfl, ?_, rfl, congrArg (Value.int .i64) (i64_succ i (by omega)), rfl⟩
    · rcases List.mem_append.1 hx with hx | hx
      · exact hM3 x hx
      · rw [List.mem_singleton.1 hx]
        exact ⟨hA2o, by show A2.l.length ≤ 31; rw [hA2l]; simp; omega⟩
    · rw [List.map_append, hpm, List.take_add_one, hx, List.map_append]
      simp [pureL, hA2]
    · rw [List.mem_append, hW, hmemv]
      constructor
      · rintro (⟨x, hx, hv⟩ | hv)
        · exact ⟨x, List.mem_append_left _ hx, hv⟩
        · exact ⟨_, List.mem_append_right _ (List.mem_cons_self ..), hv⟩
      · rintro ⟨x, hx, hv⟩
        rcases List.mem_append.1 hx with hx | hx
        · exact .inl ⟨x, hx, hv⟩
        · rw [List.mem_singleton.1 hx] at hv; exact .inr hv
    · rw [List.take_add_one, hx, List.all_append, hall]; rfl
    · rw [hgA]; rfl
  · obtain rfl : i = c.r.l.length := by omega
    rw [List.take_length] at hpm hall
    rw [← hMl] at hkd ⊢
    have hpure : pureC ⟨⟨c.r.h.a.p, Bh, kh, ⟨false, c.iss⟩ :: c.r.h.a.l⟩, D, kd, M⟩ = ruleC c := by simp only [pureC, hpm]; rfl
    have hm0 := mayC_pure ⟨⟨c.r.h.a.p, Bh, kh, ⟨false, c.iss⟩ :: c.r.h.a.l⟩, D, kd, M⟩
    rw [hpure] at hm0
    have hheld := held_rule c M W hpm hW
    have hruleB : ruleB c = (mayP (ruleC c) && heldP (ruleC c)) := by
      unfold ruleB
      rw [hp1, hp2, hp3, hp4, hp5, hall]
      simp
    have hCo : Cl.ok ⟨⟨c.r.h.a.p, Bh, kh, ⟨false, c.iss⟩ :: c.r.h.a.l⟩, D, kd, M⟩ (own 31 1 (.slice H W.length kw) W.length (u32s W) :: row b4 [.slice H W.length kw] 32 :: own 70 3 (.slice D M.length kd) M.length (ltsC M) :: row b3 [.int .u32 (c.r.h.a.p : Int), .slice Bh ((⟨false, c.iss⟩ : Tm) :: c.r.h.a.l).length kh, .slice D M.length kd] 68 :: Γ2) := ⟨Atm.ok_tl (Atm.ok_tl (Atm.ok_tl (Atm.ok_tl hho))), has_at (up_src _ _ _ _) 2 rfl fun _ h => own_src h, hkd, fun x hx => Atm.ok_tl (Atm.ok_tl (Atm.ok_tl (Atm.ok_tl (hM x hx).1)))⟩
    have hCs : Cl.small ⟨⟨c.r.h.a.p, Bh, kh, ⟨false, c.iss⟩ :: c.r.h.a.l⟩, D, kd, M⟩ := ⟨by show M.length ≤ 1000000; omega, by show (_ :: c.r.h.a.l).length ≤ 1000000; simp; omega, fun x hx => Nat.le_trans (hM x hx).2 (by decide)⟩
    have hbh : has (own 31 1 (.slice H W.length kw) W.length (u32s W) :: row b4 [.slice H W.length kw] 32 :: own 70 3 (.slice D M.length kd) M.length (ltsC M) :: row b3 [.int .u32 (c.r.h.a.p : Int), .slice Bh ((⟨false, c.iss⟩ : Tm) :: c.r.h.a.l).length kh, .slice D M.length kd] 68 :: Γ2) (fun m => cellsAt m b3 0 (Atm.cells ⟨c.r.h.a.p, Bh, kh, ⟨false, c.iss⟩ :: c.r.h.a.l⟩)) := has_rows 3 rfl rfl
    refine m_run ?_
    (apply TL.callV; exact rfl; exact callB_of (by kernel_rfl); exact rfl; exact fun _ h => h)
    exact may_t ⟨⟨c.r.h.a.p, Bh, kh, ⟨false, c.iss⟩ :: c.r.h.a.l⟩, D, kd, M⟩ _ hCo hCs
    rintro _ _ ⟨rfl, rfl⟩
    rw [hm0, hruleB]
    cases hmay : mayP (ruleC c) with
    | false =>
      refine m_run ?_
      (apply TK.retS1; exact rfl; exact rfl; (exact m_val))
      exact ⟨_, rfl, rfl, rfl⟩
      exact List.Sublist.cons _ (.cons _ (.cons _ (.cons _ hsub)))
    | true =>
    refine m_run ?_
    (apply TL.callV; exact rfl; exact callB_of (by kernel_rfl); exact rfl; exact fun _ h => h)
    exact varsG_t ⟨c.r.h.a.p, Bh, kh, ⟨false, c.iss⟩ :: c.r.h.a.l⟩ _ hCo.1 (by show (_ :: c.r.h.a.l).length ≤ 1000000; simp; omega)
    rintro _ _ ⟨Dv, Bv, kv, hpv, hsv, hkv, rfl, rfl⟩
    have hany := all_comp hpv (fun v => !decide (v ∈ W))
    have hlenv : (compL Dv).length ≤ 1000000 := by
      have h1 := compL_len Dv
      have h2 := hpv.length_eq
      have h3 := varsOf_len (⟨false, c.iss⟩ :: c.r.h.a.l)
      simp only at h2
      simp only [List.length_cons] at h3
      omega
    generalize compL Dv = Cv at *
    refine m_run ?_
    (apply TL.pv; exact rfl; (apply PV.makeFunc; exact rfl; exact rfl))
    refine m_run ?_
    (apply TL.callV; exact rfl; exact callB_of (by kernel_rfl); exact rfl; exact fun _ h => h)
    exact containsF_u 68 [.pointer (some ⟨b4, 0, none⟩)] (fun v => !decide (v ∈ W)) Bv kv Cv _ (callB_of (by kernel_rfl)) (has_at (up_src _ _ _ _) 0 rfl fun _ h => own_src h) hlenv (fun v _ => rule1_t b4 H kw W v _ (has_row 2 rfl rfl) (has_at (up_src _ _ _ _) 1 rfl fun _ h => own_src h) (by omega))
    rintro _ _ ⟨rfl, rfl⟩
    rw [hany, hheld]
    refine m_run ?_
    (apply TK.retS1; exact rfl; exact rfl; (exact m_val))
    exact ⟨_, rfl, by rw [Bool.true_and], rfl⟩
    exact List.Sublist.cons _ (.cons _ (.cons _ (.cons _ (.cons _ hsub))))
end Go.Proofs.Ythbcfamfaicneaa.E
