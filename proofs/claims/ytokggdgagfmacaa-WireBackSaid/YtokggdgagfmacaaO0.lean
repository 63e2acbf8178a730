/- Numbers as bytes, seven bits each: the plain law. No program in sight. -/
import Derived.Test.YtokggdgagfmacaaSb
namespace Go.Proofs.Ytokggdgagfmacaa.E
open Go Go.RowKit
/-- A number's var. -/
def varM (n : Nat) : List UInt8 := if n < 128 then [b8 n] else b8 (n % 128 + 128) :: varM (n / 128)
termination_by n
decreasing_by omega
theorem varM_lt {n : Nat} (h : n < 128) : varM n = [b8 n] := by rw [varM, if_pos h]
theorem varM_ge {n : Nat} (h : ¬ n < 128) : varM n = b8 (n % 128 + 128) :: varM (n / 128) := by rw [varM, if_neg h]
theorem varM_pos (n : Nat) : 0 < (varM n).length := by rw [varM]; split <;> simp
/-- What the program takes. -/
def scanP : List UInt8 → Nat → Nat → Option (Nat × Nat)
  | [], _, _ => none
  | c :: cs, k, n => if 63 < 7 * k ∨ 2 ^ 64 ≤ c.toNat % 128 * 2 ^ (7 * k) ∨ (c.toNat = 0 ∧ 0 < k) then none else
    if c.toNat < 128 then some (n + c.toNat % 128 * 2 ^ (7 * k), k + 1) else scanP cs (k + 1) (n + c.toNat % 128 * 2 ^ (7 * k))
/-- What the document finds, ahead of its test. -/
def scanR : List UInt8 → Nat → Nat → Option (Nat × Nat)
  | [], _, _ => none
  | c :: cs, k, n => if 10 ≤ k then none else
    if c.toNat < 128 then some (n ||| (c.toNat % 128 * 2 ^ (7 * k) % 2 ^ 64), k + 1) else scanR cs (k + 1) (n ||| (c.toNat % 128 * 2 ^ (7 * k) % 2 ^ 64))
theorem pow_step (k : Nat) : 2 ^ (7 * (k + 1)) = 128 * 2 ^ (7 * k) := by
  rw [Nat.mul_add, Nat.mul_one, Nat.pow_add, Nat.mul_comm]
theorem pow7_le {k : Nat} (h : ¬ 63 < 7 * k) : 2 ^ (7 * k) * 2 ^ (64 - 7 * k) = 2 ^ 64 := by
  rw [← Nat.pow_add]; congr 1; omega
theorem pow7_lt {k x : Nat} (h : 2 ^ (7 * k) * x < 2 ^ 64) (hx : 0 < x) : 7 * k < 64 := by
  have h1 : 2 ^ (7 * k) < 2 ^ 64 := Nat.lt_of_le_of_lt (Nat.le_mul_of_pos_right _ hx) h
  exact (Nat.pow_lt_pow_iff_right (by decide)).1 h1
theorem scanP_some : ∀ (cs : List UInt8) (k n v j : Nat), n < 2 ^ (7 * k) → scanP cs k n = some (v, j) → ∃ u, v = n + u * 2 ^ (7 * k) ∧ v < 2 ^ 64 ∧ j = k + (varM u).length ∧ varM u = cs.take (varM u).length ∧ (0 < k → 0 < u)
  | [], _, _, _, _, _, h => by simp [scanP] at h
  | c :: cs, k, n, v, j, hn, h => by
    rw [scanP] at h
    split at h
    · cases h
    · rename_i hc
      have h1 : ¬ 63 < 7 * k := fun h => hc (.inl h)
      have h2 : ¬ 2 ^ 64 ≤ c.toNat % 128 * 2 ^ (7 * k) := fun h => hc (.inr (.inl h))
      have h3 : ¬ (c.toNat = 0 ∧ 0 < k) := fun h => hc (.inr (.inr h))
      have hp := pow7_le h1
      have hP : 0 < 2 ^ (7 * k) := Nat.two_pow_pos _
      split at h
      · rename_i hlt
        injection h with h
        injection h with hv hj
        subst hv; subst hj
        refine ⟨c.toNat, by rw [Nat.mod_eq_of_lt hlt], ?_, ?_, ?_, fun hk => by omega⟩
        · -- the sum is below
          have h4 : c.toNat % 128 < 2 ^ (64 - 7 * k) := by
            apply Nat.lt_of_mul_lt_mul_right (a := 2 ^ (7 * k))
            rw [Nat.mul_comm (2 ^ (64 - 7 * k)), hp]; omega
          calc n + c.toNat % 128 * 2 ^ (7 * k) < 2 ^ (7 * k) + c.toNat % 128 * 2 ^ (7 * k) := by omega
            _ = (c.toNat % 128 + 1) * 2 ^ (7 * k) := by rw [Nat.add_mul, Nat.one_mul, Nat.add_comm]
            _ ≤ 2 ^ (64 - 7 * k) * 2 ^ (7 * k) := Nat.mul_le_mul_right _ h4
            _ = 2 ^ 64 := by rw [Nat.mul_comm, hp]
        · rw [varM_lt hlt]; rfl
        · rw [varM_lt hlt]; simp [b8_of]
      · rename_i hge
        have hn' : n + c.toNat % 128 * 2 ^ (7 * k) < 2 ^ (7 * (k + 1)) := by
          rw [pow_step]
          have : c.toNat % 128 < 128 := Nat.mod_lt _ (by decide)
          calc n + c.toNat % 128 * 2 ^ (7 * k) < 2 ^ (7 * k) + c.toNat % 128 * 2 ^ (7 * k) := by omega
            _ = (c.toNat % 128 + 1) * 2 ^ (7 * k) := by rw [Nat.add_mul, Nat.one_mul, Nat.add_comm]
            _ ≤ 128 * 2 ^ (7 * k) := Nat.mul_le_mul_right _ this
        obtain ⟨u, h5, h6, h7, h8, h9⟩ := scanP_some cs (k + 1) _ v j hn' h
        have hu := h9 (by omega)
        have hc8 := c.toNat_lt
        have hx : varM (128 * u + c.toNat % 128) = c :: varM u := by
          rw [varM_ge (by omega)]
          have e1 : (128 * u + c.toNat % 128) % 128 + 128 = c.toNat := by omega
          have e2 : (128 * u + c.toNat % 128) / 128 = u := by omega
          rw [e1, e2, b8_of]
        refine ⟨128 * u + c.toNat % 128, ?_, h6, ?_, ?_, fun _ => by omega⟩
        · rw [h5, pow_step, Nat.add_mul, Nat.mul_comm 128 u, Nat.mul_assoc]; omega
        · rw [hx, List.length_cons]; omega
        · rw [hx, List.length_cons, List.take_succ_cons, ← h8]
theorem scanP_var : ∀ (u k n : Nat) (rest : List UInt8), n < 2 ^ (7 * k) → n + u * 2 ^ (7 * k) < 2 ^ 64 → (0 < k → 0 < u) → scanP (varM u ++ rest) k n = some (n + u * 2 ^ (7 * k), k + (varM u).length) := by
  intro u
  induction u using Nat.strongRecOn with
  | _ u ih =>
    intro k n rest hn hv hk
    have hk7 : ¬ 63 < 7 * k := by
      rcases Nat.eq_zero_or_pos k with h | h
      · omega
      · have h1 := hk h
        have h2 : 2 ^ (7 * k) * u < 2 ^ 64 := by rw [Nat.mul_comm]; omega
        have := pow7_lt h2 h1
        omega
    by_cases hu : u < 128
    · rw [varM_lt hu]
      simp only [List.cons_append, List.nil_append, scanP]
      rw [b8_nat (by omega), Nat.mod_eq_of_lt hu, if_neg, if_pos hu]
      · rfl
      · rintro (h | h | h)
        · exact hk7 h
        · omega
        · have := hk h.2; omega
    · rw [varM_ge hu]
      simp only [List.cons_append, scanP]
      have e0 : (u % 128 + 128) % 128 = u % 128 := by omega
      have hsplit : u * 2 ^ (7 * k) = u % 128 * 2 ^ (7 * k) + u / 128 * 2 ^ (7 * (k + 1)) := by
        have e := Nat.mod_add_div u 128
        rw [pow_step, ← Nat.mul_assoc, ← Nat.add_mul, Nat.mul_comm (u / 128) 128, e]
      rw [b8_nat (by omega), e0, if_neg, if_neg (by omega), ih (u / 128) (by omega) (k + 1) _ rest ?_ (by omega) (by omega)]
      · rw [List.length_cons]
        congr 2 <;> omega
      · rw [pow_step]
        have : u % 128 < 128 := Nat.mod_lt _ (by decide)
        calc n + u % 128 * 2 ^ (7 * k) < 2 ^ (7 * k) + u % 128 * 2 ^ (7 * k) := by omega
          _ = (u % 128 + 1) * 2 ^ (7 * k) := by rw [Nat.add_mul, Nat.one_mul, Nat.add_comm]
          _ ≤ 128 * 2 ^ (7 * k) := Nat.mul_le_mul_right _ this
      · rintro (h | h | h)
        · exact hk7 h
        · omega
        · omega
theorem scanR_lt : ∀ (cs : List UInt8) (k n v j : Nat), n < 2 ^ 64 → scanR cs k n = some (v, j) → v < 2 ^ 64 ∧ k < j ∧ j ≤ k + cs.length ∧ j ≤ 10
  | [], _, _, _, _, _, h => by simp [scanR] at h
  | c :: cs, k, n, v, j, hn, h => by
    rw [scanR] at h
    have hm : n ||| (c.toNat % 128 * 2 ^ (7 * k) % 2 ^ 64) < 2 ^ 64 := Nat.or_lt_two_pow hn (Nat.mod_lt _ (by decide))
    split at h
    · cases h
    · split at h
      · injection h with h
        injection h with hv hj
        subst hv; subst hj
        refine ⟨hm, by omega, by simp, by omega⟩
      · obtain ⟨h1, h2, h3, h4⟩ := scanR_lt cs (k + 1) _ v j hm h
        exact ⟨h1, by omega, by simp; omega, h4⟩
theorem or_add {n m k : Nat} (h : n < 2 ^ k) : n ||| m * 2 ^ k = n + m * 2 ^ k := by
  have := Nat.shiftLeft_add_eq_or_of_lt h m
  rw [Nat.shiftLeft_eq] at this
  rw [Nat.or_comm, ← this, Nat.add_comm]
theorem scanR_var : ∀ (u k n : Nat) (rest : List UInt8), n < 2 ^ (7 * k) → n + u * 2 ^ (7 * k) < 2 ^ 64 → (0 < k → 0 < u) → scanR (varM u ++ rest) k n = some (n + u * 2 ^ (7 * k), k + (varM u).length) := by
  intro u
  induction u using Nat.strongRecOn with
  | _ u ih =>
    intro k n rest hn hv hk
    have hk7 : ¬ 10 ≤ k := by
      rcases Nat.eq_zero_or_pos k with h | h
      · omega
      · have h1 := hk h
        have h2 : 2 ^ (7 * k) * u < 2 ^ 64 := by rw [Nat.mul_comm]; omega
        have := pow7_lt h2 h1
        omega
    by_cases hu : u < 128
    · rw [varM_lt hu]
      simp only [List.cons_append, List.nil_append, scanR]
      rw [b8_nat (by omega), Nat.mod_eq_of_lt hu, if_neg hk7, if_pos hu, Nat.mod_eq_of_lt (a := u * _) (by omega), or_add hn]
      rfl
    · rw [varM_ge hu]
      simp only [List.cons_append, scanR]
      have e0 : (u % 128 + 128) % 128 = u % 128 := by omega
      have hsplit : u * 2 ^ (7 * k) = u % 128 * 2 ^ (7 * k) + u / 128 * 2 ^ (7 * (k + 1)) := by
        have e := Nat.mod_add_div u 128
        rw [pow_step, ← Nat.mul_assoc, ← Nat.add_mul, Nat.mul_comm (u / 128) 128, e]
      rw [b8_nat (by omega), e0, if_neg hk7, if_neg (by omega), Nat.mod_eq_of_lt (a := u % 128 * _) (by omega), or_add hn, ih (u / 128) (by omega) (k + 1) _ rest ?_ (by omega) (by omega)]
      · rw [List.length_cons]
        congr 2 <;> omega
      · rw [pow_step]
        have : u % 128 < 128 := Nat.mod_lt _ (by decide)
        calc n + u % 128 * 2 ^ (7 * k) < 2 ^ (7 * k) + u % 128 * 2 ^ (7 * k) := by omega
          _ = (u % 128 + 1) * 2 ^ (7 * k) := by rw [Nat.add_mul, Nat.one_mul, Nat.add_comm]
          _ ≤ 128 * 2 ^ (7 * k) := Nat.mul_le_mul_right _ this
/-- The document's answer, at a place. -/
def refTake (cs : List UInt8) : Option (Nat × Nat) := match scanR cs 0 0 with
  | none => none
  | some (v, j) => if varM v = cs.take j then some (v, j) else none
theorem scanP_iff {cs : List UInt8} {v j : Nat} : scanP cs 0 0 = some (v, j) ↔ v < 2 ^ 64 ∧ j = (varM v).length ∧ varM v = cs.take j := by
  constructor
  · intro h
    obtain ⟨u, h1, h2, h3, h4, _⟩ := scanP_some cs 0 0 v j (by decide) h
    have : v = u := by simpa using h1
    subst this
    have h3' : j = (varM v).length := by omega
    subst h3'
    exact ⟨h2, rfl, h4⟩
  · rintro ⟨h1, h2, h3⟩
    have e : cs = varM v ++ cs.drop j := by rw [h3]; exact (List.take_append_drop j cs).symm
    rw [e, scanP_var v 0 0 _ (by decide) (by simpa using h1) (by omega)]
    simp [h2]
theorem take_same (cs : List UInt8) : refTake cs = scanP cs 0 0 := by
  have key : ∀ x, refTake cs = some x ↔ scanP cs 0 0 = some x := by
    rintro ⟨v, j⟩
    rw [scanP_iff]
    unfold refTake
    constructor
    · intro h
      split at h
      · cases h
      · rename_i v' j' hs
        split at h
        · rename_i hv
          injection h with h
          injection h with h1 h2
          subst h1; subst h2
          obtain ⟨h3, h4, h5, _⟩ := scanR_lt cs 0 0 v' j' (by decide) hs
          refine ⟨h3, ?_, hv⟩
          rw [hv, List.length_take]; omega
        · cases h
    · rintro ⟨h1, h2, h3⟩
      have e : cs = varM v ++ cs.drop j := by rw [h3]; exact (List.take_append_drop j cs).symm
      have hs : scanR cs 0 0 = some (v, j) := by
        rw [e, scanR_var v 0 0 _ (by decide) (by simpa using h1) (by omega)]
        simp [h2]
      rw [hs]
      simp [h3]
  cases h : scanP cs 0 0 with
  | some x => exact (key x).2 h
  | none =>
    cases h2 : refTake cs with
    | none => rfl
    | some x => rw [(key x).1 h2] at h; cases h
end Go.Proofs.Ytokggdgagfmacaa.E
