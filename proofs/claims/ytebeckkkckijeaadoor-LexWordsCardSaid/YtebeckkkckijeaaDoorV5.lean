/- The document's words of a text: mark, letters, kind. -/
import Derived.Test.YtebeckkkckijeaaDoorV4
namespace Go.Proofs.YtebeckkkckijeaaDoor.E
open Go Go.RowKit Go.Proofs
attribute [local irreducible] TK TL TQ TA Fn PV
/-- The mark that stands ahead. -/
def markR : List UInt8 → Nat × Nat
  | [] => (0, 0)
  | c :: s => match markK c with
    | some k => (k, 1)
    | none => if c = 58 ∧ s.head? = some 45 then (9, 2) else (0, 0)
set_option maxRecDepth 100000 in
set_option maxHeartbeats 2000000 in
theorem rmark_t (text : List UInt8) (p : Nat) (Γ : List HP) (hp : p < text.length) (ht : text.length ≤ 1000000) :
    FnV Tryd.prog 16 [.string (S text), .int .i64 (p : Int)] Γ fun v Γ' => v = .tuple #[.int .u8 ((markR (text.drop p)).1 : Int), .int .i64 ((markR (text.drop p)).2 : Int)] ∧ Γ' = Γ := by
  refine Fn.enter Tryd.func16 rfl rfl rfl fun E => ?_
  obtain ⟨c, s, hd, hc, hd1⟩ := drop_at hp
  rw [hd]
  refine m_run ?_
  apply TK.iter (fun j ρ' Γ' => ∃ i : Nat, i + j = 4 ∧ (∀ k < i, [(40 : UInt8), 41, 44, 46][k]? ≠ some c) ∧ lk ρ' 0 = .string (S text) ∧ lk ρ' 1 = .int .i64 (p : Int) ∧ lk ρ' 6 = .string (S [40, 41, 44, 46]) ∧ lk ρ' 7 = .int .i64 (i : Int) ∧ Γ' = Γ) 4
  · exact ⟨0, rfl, fun k h => absurd h (Nat.not_lt_zero k), rfl, rfl, rfl, rfl, rfl⟩
  rintro j IH ρ' Γ ⟨i, hij, hno, e0, e1, e6, e7, rfl⟩
  refine TK.know4 e0 e1 e6 e7 ?_
  by_cases hi : i < 4
  · obtain ⟨m, hm⟩ : ∃ m, [(40 : UInt8), 41, 44, 46][i]? = some m := ⟨[(40 : UInt8), 41, 44, 46][i], List.getElem?_eq_getElem hi⟩
    by_cases hcm : c = m
    · have hmk : markK c = some (5 + i) := by
        subst hcm
        match i, hi, hm with
        | 0, _, hm => injection hm with hm; subst hm; rfl
        | 1, _, hm => injection hm with hm; subst hm; rfl
        | 2, _, hm => injection hm with hm; subst hm; rfl
        | 3, _, hm => injection hm with hm; subst hm; rfl
      have hr : markR (c :: s) = (5 + i, 1) := by simp only [markR, hmk]
      rw [hr]
      subst hcm
      refine m_run ?_
      refine TK.drawS mixed rfl ?_
      refine m_take (At.mk : At 0) ?_; refine m_take (At.mk : At 1) ?_; refine m_take (At.mk : At 2) ?_; refine m_take (At.mk : At 3) ?_; refine m_take (At.mk : At 4) ?_; refine m_take (At.mk : At 5) ?_; refine m_take (At.mk : At 6) ?_
      refine TA.isT 18 rfl (beq_self_eq_true _) ?_
      refine TA.done (by kernel_rfl) ?_
      refine m_run ?_
      (apply TK.ret2; exact rfl; exact rfl; exact rfl; exact rfl)
      refine ⟨_, rfl, congrArg (fun z : Int => Value.tuple #[.int .u8 z, .int .i64 1]) ?_, rfl⟩
      match i, hi with
      | 0, _ => decide
      | 1, _ => decide
      | 2, _ => decide
      | 3, _ => decide
    · have hne : (c.toNat : Int) ≠ (m.toNat : Int) := fun e => hcm (UInt8.toNat_inj.1 (by omega))
      refine m_run ?_
      refine TK.drawS mixed rfl ?_
      refine m_take (At.mk : At 0) ?_; refine m_take (At.mk : At 1) ?_; refine m_take (At.mk : At 2) ?_; refine m_take (At.mk : At 3) ?_; refine m_take (At.mk : At 4) ?_; refine m_take (At.mk : At 5) ?_; refine m_take (At.mk : At 6) ?_
      refine TA.isF 18 rfl (beq_eq_false_iff_ne.2 hne) ?_
      refine TA.done (by kernel_rfl) ?_
      refine m_run ?_
      refine IH (j - 1) _ _ (by omega) ⟨i + 1, by omega, fun k hk => ?_, rfl, rfl, rfl, congrArg (Value.int .i64) (i64_succ i (by omega)), rfl⟩
      rcases Nat.lt_or_ge k i with h | h
      · exact hno k h
      · have : k = i := by omega
        subst this
        rw [hm]
        exact fun e => hcm (Option.some.inj e).symm
  obtain rfl : i = 4 := by omega
  have hk0 : markK c = none := by
    have h0 := hno 0 (by decide)
    have h1 := hno 1 (by decide)
    have h2 := hno 2 (by decide)
    have h3 := hno 3 (by decide)
    have g : ∀ x : UInt8, some x ≠ some c → c ≠ x := fun x h e => h (by rw [e])
    unfold markK
    rw [if_neg (g 40 h0), if_neg (g 41 h1), if_neg (g 44 h2), if_neg (g 46 h3)]
  have hr : markR (c :: s) = if c = 58 ∧ s.head? = some 45 then (9, 2) else (0, 0) := by simp only [markR, hk0]
  rw [hr]
  clear IH
  have hls : s.length = text.length - (p + 1) := by rw [← hd1, List.length_drop]
  have hw1 := i64_succ p (by omega)
  by_cases h2 : p + 1 < text.length
  · obtain ⟨d, s2, hs⟩ : ∃ d s2, s = d :: s2 := by
      cases s with
      | nil => simp only [List.length_nil] at hls; omega
      | cons d s2 => exact ⟨d, s2, rfl⟩
    subst hs
    refine m_run ?_
    refine TL.know (t := 31) (v := .int .i64 ((p + 2 : Nat) : Int)) (congrArg (Value.int .i64) (by rw [i64_in (by omega) (by omega)]; omega)) ?_
    refine m_run ?_
    (apply TL.pv; exact rfl; (apply PV.sliceStr (i := p) (j := p + 2) (l := text); exact rfl; exact tb rfl; exact rfl; exact .some rfl; exact .some rfl; exact (by omega); exact (by omega)))
    refine TL.know (t := 32) (v := .string (S [c, d])) (congrArg (fun z => Value.string (S z)) (by rw [hd, Nat.add_sub_cancel_left]; rfl)) ?_
    by_cases hcd : c = 58 ∧ d = 45
    · obtain ⟨rfl, rfl⟩ := hcd
      refine m_run ?_
      (apply TK.ret2; exact rfl; exact rfl; exact rfl; exact rfl)
      exact ⟨_, rfl, rfl, rfl⟩
    · have hne : [c, d] ≠ [58, 45] := fun e => by
        injection e with e1 e2
        injection e2 with e2 _
        exact hcd ⟨e1, e2⟩
      rw [if_neg (fun h => hcd ⟨h.1, Option.some.inj h.2⟩)]
      refine m_run ?_
      (apply TK.ret2; exact rfl; exact rfl; exact rfl; exact rfl)
      exact ⟨_, rfl, rfl, rfl⟩
  · have hs : s = [] := List.length_eq_zero_iff.1 (by omega)
    subst hs
    rw [if_neg (fun h => by cases h.2)]
    refine m_run ?_
    (apply TK.ret2; exact rfl; exact rfl; exact rfl; exact rfl)
    exact ⟨_, rfl, rfl, rfl⟩
theorem takeW_at {s : List UInt8} {k : Nat} {c : UInt8} {r : List UInt8} (h : s.drop k = c :: r) (hk : k ≤ (s.takeWhile isL).length) : (isL c = true → k + 1 ≤ (s.takeWhile isL).length) ∧ (isL c = false → k = (s.takeWhile isL).length) :=
  takeW_step (by have := congrArg (fun l => l[0]?) h; simpa using this) hk
set_option maxRecDepth 100000 in
set_option maxHeartbeats 2000000 in
theorem rletters_t (text : List UInt8) (p : Nat) (Γ : List HP) (hp : p ≤ text.length) (ht : text.length ≤ 1000000) :
    FnV Tryd.prog 17 [.string (S text), .int .i64 (p : Int)] Γ fun v Γ' => v = .int .i64 (((text.drop p).takeWhile isL).length : Int) ∧ Γ' = Γ := by
  refine Fn.enter Tryd.func17 rfl rfl rfl fun E => ?_
  obtain ⟨N, hN⟩ : ∃ N, ((text.drop p).takeWhile isL).length = N := ⟨_, rfl⟩
  have hNl := takeW_len isL (text.drop p)
  rw [List.length_drop, hN] at hNl
  rw [hN]
  refine m_run ?_
  apply TK.iter (fun j ρ' Γ' => ∃ k : Nat, k + j = N ∧ lk ρ' 0 = .string (S text) ∧ lk ρ' 1 = .int .i64 (p : Int) ∧ lk ρ' 5 = .int .i64 ((p + k : Nat) : Int) ∧ Γ' = Γ) N
  · exact ⟨0, Nat.zero_add _, rfl, rfl, rfl, rfl⟩
  rintro j IH ρ' Γ ⟨k, hkj, e0, e1, e5, rfl⟩
  refine TK.know3 e0 e1 e5 ?_
  by_cases hk : p + k < text.length
  · obtain ⟨c, s, hd, hc, hd1⟩ := drop_at hk
    have hst := takeW_at (s := text.drop p) (k := k) (c := c) (r := s) (by rw [List.drop_drop]; exact hd) (by omega)
    rw [hN] at hst
    refine m_run ?_
    refine TL.know (t := 15) (v := .int .i64 ((p + k + 1 : Nat) : Int)) (congrArg (Value.int .i64) (i64_succ _ (by omega))) ?_
    refine m_run ?_
    (apply TL.pv; exact rfl; (apply PV.sliceStr (i := p + k) (j := p + k + 1) (l := text); exact rfl; exact tb rfl; exact rfl; exact .some rfl; exact .some rfl; exact (by omega); exact (by omega)))
    refine TL.know (t := 16) (v := .string (S [c])) (congrArg (fun z => Value.string (S z)) (by rw [hd, Nat.add_sub_cancel_left]; rfl)) ?_
    refine m_run ?_
    (apply TL.callV; exact rfl; exact callB_of (by kernel_rfl); exact rfl; exact fun _ h => h)
    exact refmay_t [c] _ (show 1 ≤ 1000000 by decide)
    rintro _ _ ⟨rfl, rfl⟩
    have hmay : mayB [c] = isL c := by
      rw [isL_okB]
      show ((okB c && true) && Nat.ble 1 1 && Nat.ble 1 32) = okB c
      cases okB c <;> rfl
    rw [hmay]
    cases hl : isL c with
    | true =>
      have := hst.1 hl
      refine m_run ?_
      refine IH (j - 1) _ _ (by omega) ⟨k + 1, by omega, rfl, rfl, congrArg (Value.int .i64) ((i64_succ (p + k) (by omega)).trans (by omega)), rfl⟩
    | false =>
      have := hst.2 hl
      refine m_run ?_
      (apply TK.ret1; exact rfl; exact rfl; exact rfl)
      exact ⟨_, rfl, congrArg (Value.int .i64) (by rw [i64_in (by omega) (by omega)]; omega), rfl⟩
  · have : k = N := by omega
    refine m_run ?_
    (apply TK.ret1; exact rfl; exact rfl; exact rfl)
    exact ⟨_, rfl, congrArg (Value.int .i64) (by rw [i64_in (by omega) (by omega)]; omega), rfl⟩
set_option maxRecDepth 100000 in
set_option maxHeartbeats 2000000 in
theorem rkind_t (c : UInt8) (r : List UInt8) (Γ : List HP) :
    FnV Tryd.prog 18 [.string (S (c :: r))] Γ fun v Γ' => v = .int .u8 (kindW (c :: r) : Int) ∧ Γ' = Γ := by
  refine Fn.enter Tryd.func18 rfl rfl rfl fun E => ?_
  by_cases h1 : c :: r = [110, 111, 116]
  · have hk : kindW (c :: r) = 3 := if_pos h1
    rw [hk]
    refine m_run ?_
    (apply TK.ret1; exact rfl; exact rfl; exact rfl)
    exact ⟨_, rfl, rfl, rfl⟩
  by_cases h2 : c :: r = [115, 97, 121, 115]
  · have hk : kindW (c :: r) = 4 := (if_neg h1).trans (if_pos h2)
    rw [hk]
    refine m_run ?_
    (apply TK.ret1; exact rfl; exact rfl; exact rfl)
    exact ⟨_, rfl, rfl, rfl⟩
  have hk := kindW_up (c := c) (r := r) (by simp [meanB, h1, h2])
  rw [hk]
  refine m_run ?_
  have hg : (c :: r)[0]? = some c := rfl
  have hn : c.toNat < 65 ∨ (65 ≤ c.toNat ∧ c.toNat ≤ 90) ∨ 90 < c.toNat := by omega
  rcases hn with h | h | h
  · rw [if_neg (by omega)]
    refine m_run ?_
    (apply TK.ret1; exact rfl; exact rfl; exact rfl)
    exact ⟨_, rfl, rfl, rfl⟩
  · rw [if_pos h]
    refine m_run ?_
    (apply TK.ret1; exact rfl; exact rfl; exact rfl)
    exact ⟨_, rfl, rfl, rfl⟩
  · rw [if_neg (by omega)]
    refine m_run ?_
    (apply TK.ret1; exact rfl; exact rfl; exact rfl)
    exact ⟨_, rfl, rfl, rfl⟩
end Go.Proofs.YtebeckkkckijeaaDoor.E
