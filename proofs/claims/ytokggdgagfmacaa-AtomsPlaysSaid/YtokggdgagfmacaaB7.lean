/- The order of facts: atoms.Compare, walked. -/
import Derived.Test.YtokggdgagfmacaaB6
namespace Go.Proofs.Ytokggdgagfmacaa.E
open Go Go.RowKit Go.Proofs
attribute [local irreducible] TK TL TQ TA Fn PV
structure Fct where
  p : Nat
  A : Option Addr
  c : Nat
  l : List Nat
def Fct.cells (f : Fct) : List Value := [.int .u32 (f.p : Int), .slice f.A f.l.length f.c]
def Fct.ok (f : Fct) (Γ : List HP) : Prop := has Γ (srcAt 1 f.A f.l.length (u32s f.l)) ∧ f.l.length ≤ f.c
theorem Fct.ok_tl {f : Fct} {Γ : List HP} {H : HP} (h : f.ok Γ) : f.ok (H :: Γ) := ⟨has_tls h.1, h.2⟩
def cmpLs : List Nat → List Nat → Int
  | [], [] => 0
  | [], _ :: _ => -1
  | _ :: _, [] => 1
  | x :: l, y :: m => if cmpI x y ≠ 0 then cmpI x y else cmpLs l m
def orI (a b c : Int) : Int := if a ≠ 0 then a else if b ≠ 0 then b else c
def cmpF (f g : Fct) : Int := orI (cmpI f.p g.p) (cmpI f.l.length g.l.length) (cmpLs f.l g.l)
set_option maxRecDepth 100000 in
set_option maxHeartbeats 1000000 in
theorem cmpLs_t (A B : Option Addr) (c d : Nat) (l m : List Nat) (Γ : List HP) (hs : has Γ (srcAt 1 A l.length (u32s l))) (ht : has Γ (srcAt 1 B m.length (u32s m))) (hn : l.length ≤ 1000000) :
    FnV Try.prog 100 [.slice A l.length c, .slice B m.length d] Γ fun v Γ' => v = .int .i64 (cmpLs l m) ∧ Γ' = Γ := by
  refine Fn.enter Try.func100 rfl rfl rfl fun E => ?_
  refine m_run ?_
  apply TK.iter (fun j ρ' Γ' => ∃ i : Nat, i + j = l.length ∧ i ≤ m.length ∧ cmpLs l m = cmpLs (l.drop i) (m.drop i) ∧ lk ρ' 0 = .slice A l.length c ∧ lk ρ' 1 = .slice B m.length d ∧ lk ρ' 9 = .slice A l.length c ∧ lk ρ' 10 = .int .i64 (l.length : Int) ∧ lk ρ' 11 = .int .i64 (i : Int) ∧ Γ' = Γ) l.length
  · exact ⟨0, Nat.zero_add _, Nat.zero_le _, rfl, rfl, rfl, rfl, rfl, rfl, rfl⟩
  rintro j IH ρ' Γ ⟨i, hij, him, hcmp, e0, e1, e9, e10, e11, rfl⟩
  refine TK.know5 e0 e1 e9 e10 e11 ?_
  by_cases hi : i < l.length
  · obtain ⟨x, hx⟩ : ∃ x, l[i]? = some x := ⟨l[i], List.getElem?_eq_getElem hi⟩
    have hdl : l.drop i = x :: l.drop (i + 1) := by
      rw [List.drop_eq_getElem_cons hi, show l[i] = x from Option.some.inj ((List.getElem?_eq_getElem hi).symm.trans hx)]
    refine TK.mem fun m0 hm0 => ?_
    obtain ⟨b, o, rfl⟩ := src_some (hs m0 hm0) (by rw [u32s_len]; omega)
    clear hm0 m0
    have hx1 := has_u32 hs hx
    by_cases hi2 : i < m.length
    · obtain ⟨y, hy⟩ : ∃ y, m[i]? = some y := ⟨m[i], List.getElem?_eq_getElem hi2⟩
      have hdm : m.drop i = y :: m.drop (i + 1) := by
        rw [List.drop_eq_getElem_cons hi2, show m[i] = y from Option.some.inj ((List.getElem?_eq_getElem hi2).symm.trans hy)]
      refine TK.mem fun m0 hm0 => ?_
      obtain ⟨b', o', rfl⟩ := src_some (ht m0 hm0) (by rw [u32s_len]; omega)
      clear hm0 m0
      have hy1 := has_u32 ht hy
      have hc2 : cmpLs l m = if cmpI x y ≠ 0 then cmpI x y else cmpLs (l.drop (i + 1)) (m.drop (i + 1)) := by rw [hcmp, hdl, hdm]; rfl
      refine m_run ?_
      (apply TL.callV; exact rfl; exact callB_of (by kernel_rfl); exact rfl; exact fun _ h => h)
      exact cmpU_t _ _ _
      rintro _ _ ⟨rfl, rfl⟩
      by_cases h0 : cmpI x y = 0
      · rw [if_neg (by simpa using h0)] at hc2
        refine m_run ?_
        exact IH (j - 1) _ _ (by omega) ⟨i + 1, by omega, by omega, hc2, rfl, rfl, rfl, rfl, congrArg (Value.int .i64) (i64_succ i (by omega)), rfl⟩
      · rw [if_pos h0] at hc2
        refine m_run ?_
        (apply TK.ret1; exact rfl; exact rfl; (exact m_val))
        exact ⟨_, rfl, congrArg (Value.int .i64) hc2.symm, rfl⟩
    · have hdm : m.drop i = [] := List.drop_of_length_le (by omega)
      have : cmpLs l m = 1 := by rw [hcmp, hdl, hdm]; rfl
      refine m_run ?_
      (apply TK.ret1; exact rfl; exact rfl; (exact m_val))
      exact ⟨_, rfl, congrArg (Value.int .i64) this.symm, rfl⟩
  have hdl : l.drop i = [] := List.drop_of_length_le (by omega)
  by_cases hlm : l.length < m.length
  · have hdm : ∃ y s, m.drop i = y :: s := ⟨_, _, List.drop_eq_getElem_cons (show i < m.length by omega)⟩
    obtain ⟨y, s, hdm⟩ := hdm
    have : cmpLs l m = -1 := by rw [hcmp, hdl, hdm]; rfl
    refine m_run ?_
    (apply TK.ret1; exact rfl; exact rfl; (exact m_val))
    exact ⟨_, rfl, congrArg (Value.int .i64) this.symm, rfl⟩
  · have hdm : m.drop i = [] := List.drop_of_length_le (by omega)
    have : cmpLs l m = 0 := by rw [hcmp, hdl, hdm]; rfl
    refine m_run ?_
    (apply TK.ret1; exact rfl; exact rfl; (exact m_val))
    exact ⟨_, rfl, congrArg (Value.int .i64) this.symm, rfl⟩
set_option maxRecDepth 100000 in
theorem or_t (b : Nat) (x y z : Int) (Γ : List HP) (h : has Γ (srcAt 1 (some ⟨b, 0, none⟩) 3 [.int .i64 x, .int .i64 y, .int .i64 z])) :
    FnV Try.prog 97 [.slice (some ⟨b, 0, none⟩) 3 3] Γ fun v Γ' => v = .int .i64 (orI x y z) ∧ Γ' = Γ := by
  refine Fn.enter Try.func97 rfl rfl rfl fun E => ?_
  have hc : ∀ (i : Nat) (v : Value), [Value.int .i64 x, .int .i64 y, .int .i64 z][i]? = some v → has Γ (fun m => cellAt m b i v) := fun i v hi m hm => by
    obtain ⟨_, h2⟩ := h m hm
    rcases h2 with h2 | ⟨b', o', e, h2⟩
    · cases h2
    · injection e with e
      injection e with e1 e2 _
      subst e1; subst e2
      have := h2 i v hi
      rwa [Nat.zero_add] at this
  refine m_run ?_
  apply TK.iter (fun j ρ' Γ' => ∃ i : Nat, i + j = 3 ∧ (0 < i → x = 0) ∧ (1 < i → y = 0) ∧ (2 < i → z = 0) ∧ lk ρ' 3 = .int .i64 0 ∧ lk ρ' 6 = .slice (some ⟨b, 0, none⟩) 3 3 ∧ lk ρ' 7 = .int .i64 3 ∧ lk ρ' 8 = .int .i64 (i : Int) ∧ Γ' = Γ) 3
  · exact ⟨0, rfl, fun h => absurd h (by decide), fun h => absurd h (by decide), fun h => absurd h (by decide), rfl, rfl, rfl, rfl, rfl⟩
  rintro j IH ρ' Γ ⟨i, hij, hx0, hy0, hz0, e3, e6, e7, e8, rfl⟩
  refine TK.know4 e3 e6 e7 e8 ?_
  by_cases hi : i < 3
  · obtain ⟨v, hv⟩ : ∃ v : Int, [Value.int .i64 x, .int .i64 y, .int .i64 z][i]? = some (.int .i64 v) := by
      match i, hi with
      | 0, _ => exact ⟨x, rfl⟩
      | 1, _ => exact ⟨y, rfl⟩
      | 2, _ => exact ⟨z, rfl⟩
    have hcell := hc i _ hv
    have hvv : (i = 0 → v = x) ∧ (i = 1 → v = y) ∧ (i = 2 → v = z) := by
      refine ⟨?_, ?_, ?_⟩ <;> rintro rfl <;> · injection hv with hv; injection hv with _ hv; exact hv.symm
    by_cases h0 : v = 0
    · refine m_run ?_
      refine IH (j - 1) _ _ (by omega) ⟨i + 1, by omega, fun _ => ?_, fun _ => ?_, fun _ => ?_, rfl, rfl, rfl, congrArg (Value.int .i64) (i64_succ i (by omega)), rfl⟩
      · rcases Nat.eq_zero_or_pos i with h | h
        · rw [← hvv.1 h]; exact h0
        · exact hx0 h
      · rcases Nat.lt_or_ge 1 i with h | h
        · exact hy0 h
        · rw [← hvv.2.1 (by omega)]; exact h0
      · rw [← hvv.2.2 (by omega)]; exact h0
    · have hr : orI x y z = v := by
        unfold orI
        match i, hi with
        | 0, _ =>
          have := hvv.1 rfl
          subst this
          rw [if_pos h0]
        | 1, _ =>
          have := hvv.2.1 rfl
          subst this
          rw [if_neg (by simp [hx0 (by decide)]), if_pos h0]
        | 2, _ =>
          have := hvv.2.2 rfl
          subst this
          rw [if_neg (by simp [hx0 (by decide)]), if_neg (by simp [hy0 (by decide)])]
      refine m_run ?_
      (apply TK.ret1; exact rfl; exact rfl; (exact m_val))
      exact ⟨_, rfl, congrArg (Value.int .i64) hr.symm, rfl⟩
  have hr : orI x y z = 0 := by
    unfold orI
    rw [if_neg (by simp [hx0 (by omega)]), if_neg (by simp [hy0 (by omega)]), hz0 (by omega)]
  refine m_run ?_
  (apply TK.ret1; exact rfl; exact rfl; (exact m_val))
  exact ⟨_, rfl, congrArg (Value.int .i64) hr.symm, rfl⟩
set_option maxRecDepth 100000 in
set_option maxHeartbeats 1000000 in
theorem compare_t (f g : Fct) (Γ : List HP) (hf : f.ok Γ) (hg : g.ok Γ) (hn : f.l.length ≤ 1000000) :
    FnV Try.prog 50 [.agg f.cells.toArray, .agg g.cells.toArray] Γ fun v Γ' => v = .int .i64 (cmpF f g) ∧ Γ' = Γ := by
  refine Fn.enter Try.func50 rfl rfl rfl fun E => ?_
  obtain ⟨p, A, c, l⟩ := f
  obtain ⟨q, B, d, m⟩ := g
  have hs : has Γ (srcAt 1 A l.length (u32s l)) := hf.1
  have ht : has Γ (srcAt 1 B m.length (u32s m)) := hg.1
  replace hn : l.length ≤ 1000000 := hn
  refine m_run ?_
  (apply TL.box; exact rfl; exact rfl; (exact m_lst))
  intro b1
  refine m_run ?_
  (apply TL.box; exact rfl; exact rfl; (exact m_lst))
  intro b2
  refine TL.imp (Δ := row b2 [.int .u32 (q : Int), .slice B m.length d] 26 :: row b1 [.int .u32 (p : Int), .slice A l.length c] 26 :: Γ) (fun _ h => h) ?_
  refine m_run ?_
  refine TK.drawS mixed rfl ?_
  refine m_take (At.mk : At 0) ?_; refine m_take (At.mk : At 1) ?_; refine m_take (At.mk : At 2) ?_; refine m_take (At.mk : At 3) ?_; refine m_take (At.mk : At 5) ?_; refine m_take (At.mk : At 6) ?_; refine m_take (At.mk : At 7) ?_; refine m_take (At.mk : At 8) ?_; refine m_take (At.mk : At 9) ?_; refine m_take (At.mk : At 10) ?_; refine m_take (At.mk : At 12) ?_; refine m_take (At.mk : At 13) ?_; refine m_take (At.mk : At 14) ?_; refine m_take (At.mk : At 15) ?_
  (apply TA.one 4; kernel_rfl; exact rfl)
  (apply TL.callV; exact rfl; exact callB_of (by kernel_rfl); exact rfl; exact fun _ h => h)
  exact cmpU_t _ _ _
  rintro _ _ ⟨rfl, rfl⟩
  refine TL.back (by (focus ((repeat (first | assumption | exact Ent.refl _ | apply Ent.tail)); done))) ?_
  (apply TA.one 11; kernel_rfl; exact rfl)
  (apply TL.callV; exact rfl; exact callB_of (by kernel_rfl); exact rfl; exact fun _ h => h)
  exact cmpInt_t _ _ _
  rintro _ _ ⟨rfl, rfl⟩
  refine TL.back (by (focus ((repeat (first | assumption | exact Ent.refl _ | apply Ent.tail)); done))) ?_
  (apply TA.one 16; kernel_rfl; exact rfl)
  (apply TL.callV; exact rfl; exact callB_of (by kernel_rfl); exact rfl; exact fun _ h => h)
  exact cmpLs_t A B c d l m _ (has_tls (has_tls hs)) (has_tls (has_tls ht)) hn
  rintro _ _ ⟨rfl, rfl⟩
  refine TL.back (by (focus ((repeat (first | assumption | exact Ent.refl _ | apply Ent.tail)); done))) ?_
  (apply TA.one 17; kernel_rfl; exact rfl)
  (apply TL.buildSlice (l := [.int .i64 (cmpI p q), .int .i64 (cmpI l.length m.length), .int .i64 (cmpLs l m)]); exact rfl; exact tb rfl; exact rfl; exact tb rfl; exact rfl; exact rfl; exact rfl; exact rfl; exact rfl)
  intro b17
  refine TL.back (by (focus ((repeat (first | assumption | exact Ent.refl _ | apply Ent.tail)); done))) ?_
  (apply TA.one 18; kernel_rfl; exact rfl)
  (apply TL.callV; exact rfl; exact callB_of (by kernel_rfl); exact rfl; exact fun _ h => h)
  exact or_t b17 _ _ _ _ (has_src_row 0 rfl rfl)
  rintro _ _ ⟨rfl, rfl⟩
  refine TL.back (by (focus ((repeat (first | assumption | exact Ent.refl _ | apply Ent.tail)); done))) ?_
  refine m_take (At.mk : At 19) ?_
  refine TA.done (by kernel_rfl) ?_
  refine m_run ?_
  (apply TK.retS1; exact rfl; exact rfl; (exact m_val))
  · exact ⟨_, rfl, rfl, rfl⟩
  · (repeat (first | exact List.Sublist.refl _ | apply List.Sublist.cons_cons | apply List.Sublist.cons))
end Go.Proofs.Ytokggdgagfmacaa.E
