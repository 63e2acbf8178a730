/- The document's words of a text: May, blanks, mark, letters, kind. -/
import Derived.Test.YtebeckkkckijeaaDoorR9
namespace Go.Proofs.YtebeckkkckijeaaDoor.E
open Go Go.RowKit Go.Proofs
attribute [local irreducible] TK TL TQ TA Fn PV
theorem okN_iff (n : Nat) : okN n = true ↔ (97 ≤ n ∧ n ≤ 122) ∨ (65 ≤ n ∧ n ≤ 90) ∨ (48 ≤ n ∧ n ≤ 57) ∨ n = 95 := by
  simp only [okN, Bool.or_eq_true, Bool.and_eq_true, Nat.ble_eq, Nat.beq_eq]
  omega
theorem refmay_t (l : List UInt8) (Γ : List HP) (hl : l.length ≤ 1000000) : FnV Tryd.prog 24 [.string (S l)] Γ fun v Γ' => v = .bool (mayB l) ∧ Γ' = Γ := by
  refine Fn.enter Tryd.func24 rfl rfl rfl fun E => ?_
  refine m_run ?_
  apply TK.iter (fun j ρ' Γ' => ∃ i : Nat, i + j = l.length ∧ (l.take i).all okB = true ∧ lk ρ' 0 = .string (S l) ∧ lk ρ' 3 = .int .i64 i ∧ Γ' = Γ) l.length
  · exact ⟨0, by omega, by simp, rfl, rfl, rfl⟩
  rintro j IH ρ' Γ' ⟨i, hij, hall, e0, e3, rfl⟩
  refine TK.know2 e0 e3 ?_
  by_cases hi : i < l.length
  · have hx : l[i]? = some l[i] := by simp [hi]
    have hstep : okN l[i].toNat = true → (l.take (i + 1)).all okB = true := fun h => by
      rw [List.take_succ_eq_append_getElem hi, List.all_append, hall]
      simp only [List.all_cons, List.all_nil, Bool.and_true, Bool.true_and]; exact h
    have hbad : okN l[i].toNat = false → false = mayB l := fun h => mayB_f fun h' => by
      have := List.all_eq_true.1 h'.1 l[i] (by simp)
      have h2 : okN l[i].toNat = true := this
      rw [h] at h2; cases h2
    generalize l[i] = x at hx hstep hbad
    have hn : ∀ n : Nat, n < 48 ∨ (48 ≤ n ∧ n ≤ 57) ∨ (58 ≤ n ∧ n ≤ 64) ∨ (65 ≤ n ∧ n ≤ 90) ∨ (91 ≤ n ∧ n ≤ 94) ∨ n = 95 ∨ n = 96 ∨ (97 ≤ n ∧ n ≤ 122) ∨ 123 ≤ n := by omega
    have hok := okN_iff x.toNat
    have hbad' : ¬ okN x.toNat = true → false = mayB l := fun h => hbad (by simpa using h)
    rcases hn x.toNat with h | h | h | h | h | h | h | h | h
    · refine m_run ?_
      (apply TK.ret1; exact rfl; exact rfl; (exact m_val))
      exact ⟨_, rfl, congrArg Value.bool (hbad' (by rw [hok]; omega)), rfl⟩
    · refine m_run ?_
      refine IH (j - 1) _ _ (by omega) ⟨i + 1, by omega, hstep (by rw [hok]; omega), rfl, congrArg (Value.int .i64) (i64_succ i (by omega)), rfl⟩
    · refine m_run ?_
      (apply TK.ret1; exact rfl; exact rfl; (exact m_val))
      exact ⟨_, rfl, congrArg Value.bool (hbad' (by rw [hok]; omega)), rfl⟩
    · refine m_run ?_
      refine IH (j - 1) _ _ (by omega) ⟨i + 1, by omega, hstep (by rw [hok]; omega), rfl, congrArg (Value.int .i64) (i64_succ i (by omega)), rfl⟩
    · refine m_run ?_
      (apply TK.ret1; exact rfl; exact rfl; (exact m_val))
      exact ⟨_, rfl, congrArg Value.bool (hbad' (by rw [hok]; omega)), rfl⟩
    · refine m_run ?_
      refine IH (j - 1) _ _ (by omega) ⟨i + 1, by omega, hstep (by rw [hok]; omega), rfl, congrArg (Value.int .i64) (i64_succ i (by omega)), rfl⟩
    · refine m_run ?_
      (apply TK.ret1; exact rfl; exact rfl; (exact m_val))
      exact ⟨_, rfl, congrArg Value.bool (hbad' (by rw [hok]; omega)), rfl⟩
    · refine m_run ?_
      refine IH (j - 1) _ _ (by omega) ⟨i + 1, by omega, hstep (by rw [hok]; omega), rfl, congrArg (Value.int .i64) (i64_succ i (by omega)), rfl⟩
    · refine m_run ?_
      (apply TK.ret1; exact rfl; exact rfl; (exact m_val))
      exact ⟨_, rfl, congrArg Value.bool (hbad' (by rw [hok]; omega)), rfl⟩
  · rw [List.take_of_length_le (by omega)] at hall
    by_cases h2 : 0 < l.length
    · by_cases h3 : l.length ≤ 32
      · refine m_run ?_
        (apply TK.ret1; exact rfl; exact rfl; (exact m_val))
        exact ⟨_, rfl, congrArg Value.bool ((decide_eq_true (by omega)).trans (mayB_t hall h2 h3)), rfl⟩
      · refine m_run ?_
        (apply TK.ret1; exact rfl; exact rfl; (exact m_val))
        exact ⟨_, rfl, congrArg Value.bool ((decide_eq_false (by omega)).trans (mayB_f (by omega))), rfl⟩
    · refine m_run ?_
      (apply TK.ret1; exact rfl; exact rfl; (exact m_val))
      exact ⟨_, rfl, congrArg Value.bool (mayB_f (by omega)), rfl⟩

/-! ### blanks -/
theorem drop_at {l : List UInt8} {k : Nat} (h : k < l.length) : ∃ c s, l.drop k = c :: s ∧ l[k]? = some c ∧ l.drop (k + 1) = s := by
  rw [List.drop_eq_getElem_cons h]
  exact ⟨_, _, rfl, List.getElem?_eq_getElem h, rfl⟩
theorem blk_stop {c : UInt8} {s : List UInt8} (h : isB c = false) (hc : c ≠ 37) : blk (c :: s) = c :: s := by rw [blk_cons, if_neg hc, h]; rfl
theorem isB_no {c : UInt8} (h : isB c = false) : c ≠ 32 ∧ c ≠ 9 ∧ c ≠ 10 ∧ c ≠ 13 := by
  simp only [isB, Bool.or_eq_false_iff, beq_eq_false_iff_ne] at h
  exact ⟨h.1.1.1, h.1.1.2, h.1.2, h.2⟩
theorem u8n {c : UInt8} {n : Nat} (hn : n < 256) : c = UInt8.ofNat n ↔ c.toNat = n := by
  constructor
  · rintro rfl; simp [Nat.mod_eq_of_lt hn]
  · intro h; rw [← h]; simp
set_option maxRecDepth 100000 in
set_option maxHeartbeats 2000000 in
theorem rblanks_t (text : List UInt8) (p : Nat) (Γ : List HP) (hp : p ≤ text.length) (ht : text.length ≤ 1000000) :
    FnV Tryd.prog 15 [.string (S text), .int .i64 (p : Int)] Γ fun v Γ' => v = .int .i64 ((text.length - p - (blk (text.drop p)).length : Nat) : Int) ∧ Γ' = Γ := by
  refine Fn.enter Tryd.func15 rfl rfl rfl fun E => ?_
  refine m_run ?_
  obtain ⟨B, hB⟩ : ∃ B, blk (text.drop p) = B := ⟨_, rfl⟩
  rw [hB]
  have fin : ∀ k, p ≤ k → k ≤ text.length → B = text.drop k → ((k : Int) - (p : Int)) = ((text.length - p - B.length : Nat) : Int) := fun k h1 h2 h3 => by
    rw [h3, List.length_drop]; omega
  apply TK.iter (fun j ρ' Γ' => ∃ k : Nat, k + j = text.length ∧ p ≤ k ∧ blk (text.drop k) = B ∧ lk ρ' 0 = .string (S text) ∧ lk ρ' 1 = .int .i64 (p : Int) ∧ lk ρ' 5 = .int .i64 (k : Int) ∧ Γ' = Γ) (text.length - p)
  · exact ⟨p, by omega, Nat.le_refl _, hB, rfl, rfl, rfl, rfl⟩
  rintro j IH ρ' Γ ⟨k, hkj, hpk, hbk, e0, e1, e5, rfl⟩
  refine TK.know3 e0 e1 e5 ?_
  by_cases hk : k < text.length
  · obtain ⟨c, s, hd, hc, hd1⟩ := drop_at hk
    rw [hd] at hbk
    by_cases h37 : c = 37
    · subst h37
      rw [blk_cons, if_pos rfl] at hbk
      refine m_run ?_
      apply TK.iter (fun j ρ' Γ' => ∃ q : Nat, q + j = text.length ∧ k ≤ q ∧ (k < q ∨ q = k) ∧ blk (skipC (text.drop q)) = B ∧ lk ρ' 0 = .string (S text) ∧ lk ρ' 1 = .int .i64 (p : Int) ∧ lk ρ' 5 = .int .i64 (q : Int) ∧ Γ' = Γ) (text.length - k)
      · exact ⟨k, by omega, Nat.le_refl _, .inr rfl, by rw [hd, show skipC (37 :: s) = skipC s from rfl]; exact hbk, rfl, rfl, rfl, rfl⟩
      rintro j2 IH2 ρ2 Γ ⟨q, hqj, hkq, hkq2, hbq, f0, f1, f5, rfl⟩
      refine TK.know3 f0 f1 f5 ?_
      by_cases hq : q < text.length
      · obtain ⟨d, s2, hd2, hc2, hd3⟩ := drop_at hq
        rw [hd2] at hbq
        by_cases h10 : d = 10
        · subst h10
          have hne : k ≠ q := fun e => by rw [e, hc2] at hc; injection hc with hc; exact absurd hc (by decide)
          refine m_run ?_
          refine IH (text.length - q) _ _ (by omega) ⟨q, by omega, by omega, by rw [hd2]; exact hbq, rfl, rfl, rfl, rfl⟩
        · have hdn : (d.toNat : Int) ≠ 10 := fun e => h10 ((u8n (n := 10) (by decide)).2 (by omega))
          rw [show skipC (d :: s2) = skipC s2 from if_neg h10] at hbq
          refine m_run ?_
          refine IH2 (j2 - 1) _ _ (by omega) ⟨q + 1, by omega, by omega, .inl (by omega), by rw [hd3]; exact hbq, rfl, rfl, congrArg (Value.int .i64) (i64_succ q (by omega)), rfl⟩
      · have hdq : text.drop q = [] := List.drop_of_length_le (by omega)
        rw [hdq] at hbq
        have hne : k ≠ q := by omega
        refine m_run ?_
        refine IH (text.length - q) _ _ (by omega) ⟨q, by omega, by omega, by rw [hdq]; exact hbq, rfl, rfl, rfl, rfl⟩
    · have hcn : (c.toNat : Int) ≠ 37 := fun e => h37 ((u8n (n := 37) (by decide)).2 (by omega))
      cases hb : isB c with
      | false =>
        obtain ⟨g1, g2, g3, g4⟩ := isB_no hb
        have n1 : (c.toNat : Int) ≠ 32 := fun e => g1 ((u8n (n := 32) (by decide)).2 (by omega))
        have n2 : (c.toNat : Int) ≠ 9 := fun e => g2 ((u8n (n := 9) (by decide)).2 (by omega))
        have n3 : (c.toNat : Int) ≠ 10 := fun e => g3 ((u8n (n := 10) (by decide)).2 (by omega))
        have n4 : (c.toNat : Int) ≠ 13 := fun e => g4 ((u8n (n := 13) (by decide)).2 (by omega))
        rw [blk_stop hb h37, ← hd] at hbk
        have hf := fin k hpk (by omega) hbk.symm
        refine m_run ?_
        (apply TK.ret1; exact rfl; exact rfl; exact rfl)
        exact ⟨_, rfl, congrArg (Value.int .i64) (by rw [i64_in (by omega) (by omega)]; exact hf), rfl⟩
      | true =>
        rw [blk_cons, if_neg h37, hb, if_pos rfl, ← hd1] at hbk
        have hnext : ∀ (ρ3 : Env), lk ρ3 0 = .string (S text) → lk ρ3 1 = .int .i64 (p : Int) → lk ρ3 5 = .int .i64 (IntKind.i64.wrap ((k : Int) + 1)) → ∃ k' : Nat, k' + (j - 1) = text.length ∧ p ≤ k' ∧ blk (text.drop k') = B ∧ lk ρ3 0 = .string (S text) ∧ lk ρ3 1 = .int .i64 (p : Int) ∧ lk ρ3 5 = .int .i64 (k' : Int) ∧ Γ = Γ :=
          fun ρ3 a0 a1 a5 => ⟨k + 1, by omega, by omega, hbk, a0, a1, a5.trans (congrArg (Value.int .i64) (i64_succ k (by omega))), rfl⟩
        have hcc : c = 32 ∨ c = 9 ∨ c = 10 ∨ c = 13 := by
          simp only [isB, Bool.or_eq_true, beq_iff_eq] at hb
          rcases hb with ((h | h) | h) | h <;> simp [h]
        rcases hcc with rfl | rfl | rfl | rfl <;>
        · refine m_run ?_
          exact IH (j - 1) _ _ (by omega) (hnext _ rfl rfl rfl)
  · have hdk : text.drop k = [] := List.drop_of_length_le (by omega)
    have hf := fin k hpk (by omega) (by rw [← hbk, hdk]; rfl)
    refine m_run ?_
    (apply TK.ret1; exact rfl; exact rfl; exact rfl)
    exact ⟨_, rfl, congrArg (Value.int .i64) (by rw [i64_in (by omega) (by omega)]; exact hf), rfl⟩
end Go.Proofs.YtebeckkkckijeaaDoor.E
