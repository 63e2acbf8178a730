/- SymsEnds, whatever is handed in: the walk: it answers true. -/
import Derived.Test.YtoccilnobgoncaaZ8
namespace Go.Proofs.Ytoccilnobgoncaa.E
open Go Go.RowKit Go.Proofs
attribute [local irreducible] TK TL TQ TA Fn PV
def nths (i : Nat) : List (List UInt8) := (List.range i).map nthM
theorem nths_length (i : Nat) : (nths i).length = i := by simp [nths]
theorem nths_succ (i : Nat) : nths (i + 1) = nths i ++ [nthM i] := by simp [nths, List.range_succ]
theorem nths_get {i k : Nat} (h : k < i) : (nths i)[k]? = some (nthM k) := by simp [nths, h]
theorem nths_tab {i : Nat} (h : i ≤ 4096) : Tab (nths i) := by
  induction i with
  | zero => exact Tab.nil
  | succ i ih =>
    rw [nths_succ]
    refine (ih (by omega)).snoc (nthM_may (by omega)) ?_
    intro hm
    obtain ⟨k, hk, e⟩ := List.mem_map.1 hm
    rw [List.mem_range] at hk
    have := nthM_inj e
    omega
theorem nths_put {i : Nat} (h : i < 4096) : putM (nths i) (nthM i) = (i, 0, nths (i + 1)) := by
  have hx : nthM i ∉ nths i := by
    intro hm
    obtain ⟨k, hk, e⟩ := List.mem_map.1 hm
    rw [List.mem_range] at hk
    have := nthM_inj e
    omega
  rcases putM_cases (nths i) (nthM i) (nths_tab (by omega)) (by rw [nths_length]; omega) with ⟨h1, _, _⟩ | ⟨_, n, hf, _⟩ | ⟨_, _, hp⟩
  · rw [nthM_may (by omega)] at h1; cases h1
  · exact (hx (List.mem_of_getElem? (findName_some hf).2.1)).elim
  · rw [hp, nths_length, nths_succ]
theorem nths_old {k : Nat} (h : k < 4096) : putM (nths 4096) (nthM k) = (k, 0, nths 4096) := by
  have hT := nths_tab (Nat.le_refl 4096)
  have hf := findName_nodup hT.1 (nths_get h)
  rw [putM, nthM_may (by omega), hf]; rfl
theorem putM_full {L : List (List UInt8)} {x : List UInt8} (h1 : mayB x = true) (h2 : findName L x = none) (h3 : 4096 ≤ L.length) : putM L x = (0, 6, L) := by
  rw [putM, h1, h2]; exact if_pos h3
theorem nths_one : findName (nths 4096) [111, 110, 101, 95, 109, 111, 114, 101] = none := by
  cases hf : findName (nths 4096) [111, 110, 101, 95, 109, 111, 114, 101] with
  | none => rfl
  | some n =>
    obtain ⟨k, _, e⟩ := List.mem_map.1 (List.mem_of_getElem? (findName_some hf).2.1)
    simp [nthM] at e
theorem nths_more : putM (nths 4096) [111, 110, 101, 95, 109, 111, 114, 101] = (0, 6, nths 4096) := putM_full (by decide +kernel) nths_one (Nat.le_of_eq (nths_length 4096).symm)
theorem nths_none : putM (nths 4096) [] = (0, 8, nths 4096) := by
  rw [putM, show mayB [] = false by decide +kernel]; rfl
theorem fill_set (N i : Nat) (z v : Value) (h : i < N) : (List.replicate i v ++ List.replicate (N - i) z).set i v = List.replicate (i + 1) v ++ List.replicate (N - (i + 1)) z := by
  obtain ⟨k, hk⟩ : ∃ k, N - i = k + 1 := ⟨N - i - 1, by omega⟩
  rw [List.set_append_right _ _ (by simp), hk, show N - (i + 1) = k by omega]
  rw [List.length_replicate, Nat.sub_self, List.replicate_succ, List.set_cons_zero, List.replicate_succ' (n := i), List.append_assoc]
  rfl
end Go.Proofs.Ytoccilnobgoncaa.E
