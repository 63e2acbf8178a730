/- The document's n-th names are unlike one another and may be. -/
import Derived.Test.YtoccilnobgoncaaZ7
namespace Go.Proofs.Ytoccilnobgoncaa.E
open Go Go.RowKit Go.Proofs
def dec (l : List UInt8) : Nat := l.foldl (fun a c => 26 * a + (c.toNat - 97)) 0
theorem dec_digits (n : Nat) : dec (digits n) = n := by
  induction n using Nat.strongRecOn with
  | _ n ih =>
    by_cases h : n < 26
    · rw [digits_lt h]; simp [dec, dig_nat]; omega
    · rw [digits_ge h]
      have := ih (n / 26) (by omega)
      unfold dec at this ⊢
      rw [List.foldl_append, this]
      simp [dig_nat]; omega
theorem nthM_inj {a b : Nat} (h : nthM a = nthM b) : a = b := by
  have h1 : digits a = digits b := by simpa [nthM] using h
  rw [← dec_digits a, h1, dec_digits]
theorem okB_dig (n : Nat) : okB (dig n) = true := by
  have : n % 26 < 26 := Nat.mod_lt _ (by decide)
  unfold okB
  rw [okN_iff, dig_nat]; omega
theorem digits_ok (n : Nat) : (digits n).all okB = true ∧ 1 ≤ (digits n).length ∧ (n < 26 ^ 1 → (digits n).length ≤ 1) ∧ (n < 26 ^ 2 → (digits n).length ≤ 2) ∧ (n < 26 ^ 3 → (digits n).length ≤ 3) := by
  have one : ∀ n, n < 26 → (digits n).length = 1 := fun n h => by rw [digits_lt h]; rfl
  have two : ∀ n, n < 676 → (digits n).length ≤ 2 := fun n h => by
    by_cases h2 : n < 26
    · rw [one n h2]; decide
    · rw [digits_ge h2]; simp [one (n / 26) (by omega)]
  refine ⟨?_, ?_, fun h => by rw [one n h]; decide, fun h => two n h, fun h => ?_⟩
  · induction n using Nat.strongRecOn with
    | _ n ih =>
      by_cases h : n < 26
      · rw [digits_lt h]; simp [okB_dig]
      · rw [digits_ge h, List.all_append, ih (n / 26) (by omega)]; simp [okB_dig]
  · by_cases h : n < 26
    · rw [digits_lt h]; simp
    · rw [digits_ge h]; simp
  · by_cases h2 : n < 26
    · rw [one n h2]; decide
    · rw [digits_ge h2]
      have := two (n / 26) (by omega)
      simp; omega
theorem nthM_may {n : Nat} (h : n < 17576) : mayB (nthM n) = true := by
  obtain ⟨h1, _, _, _, h2⟩ := digits_ok n
  have := h2 h
  refine (mayB_t ?_ (by simp [nthM]) (by simp [nthM]; omega)).symm
  simp only [nthM, List.all_append, h1, Bool.and_true]
  decide
end Go.Proofs.Ytoccilnobgoncaa.E
