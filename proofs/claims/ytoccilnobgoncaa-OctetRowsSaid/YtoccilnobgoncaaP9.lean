/- Vars and byte strings in a row, cut anywhere: the plain law. -/
import Derived.Test.YtoccilnobgoncaaP6
namespace Go.Proofs.Ytoccilnobgoncaa.E
open Go Go.RowKit Go.Proofs
/-- What is put: a number or a byte string. -/
inductive Pc where
  | num (n : Nat)
  | str (b : List UInt8)
def Pc.enc : Pc → List UInt8
  | .num n => varM n
  | .str b => varM b.length ++ b
def Pc.ok : Pc → Prop
  | .num n => n < 18446744073709551616
  | .str b => b.length ≤ 300
def bufP (l : List Pc) : List UInt8 := l.flatMap Pc.enc
theorem bufP_snoc (l : List Pc) (x : Pc) : bufP (l ++ [x]) = bufP l ++ x.enc := by simp [bufP]
theorem bufP_append (l m : List Pc) : bufP (l ++ m) = bufP l ++ bufP m := by simp [bufP]
theorem enc_len {x : Pc} (h : x.ok) : x.enc.length ≤ 310 := by
  cases x with
  | num n => exact Nat.le_trans (varM_len n h) (by decide)
  | str b =>
    have h : b.length ≤ 300 := h
    have := varM_len b.length (by omega)
    simp only [Pc.enc, List.length_append]; omega
theorem bufP_len {l : List Pc} (h : ∀ x ∈ l, x.ok) : (bufP l).length ≤ 310 * l.length := by
  induction l with
  | nil => simp [bufP]
  | cons x l ih =>
    have h1 := enc_len (h x (by simp))
    have h2 := ih fun y hy => h y (by simp [hy])
    have h3 : bufP (x :: l) = x.enc ++ bufP l := by simp [bufP]
    rw [h3, List.length_append, List.length_cons]; omega
/-- Where each piece ends. -/
def endsP (l : List Pc) : List Int := (List.range l.length).map fun j => ((bufP (l.take (j + 1))).length : Int)
theorem endsP_length (l : List Pc) : (endsP l).length = l.length := by simp [endsP]
theorem endsP_snoc (l : List Pc) (x : Pc) : endsP (l ++ [x]) = endsP l ++ [((bufP (l ++ [x])).length : Int)] := by
  unfold endsP
  rw [List.length_append, List.length_singleton, List.range_succ, List.map_append]
  congr 1
  · refine List.map_congr_left fun j hj => ?_
    rw [List.mem_range] at hj
    rw [List.take_append_of_le_length (by omega)]
  · simp only [List.map_cons, List.map_nil]
    rw [List.take_of_length_le (by simp)]
theorem endsP_get (pre post : List Pc) (x : Pc) : (endsP (pre ++ x :: post))[pre.length]? = some ((bufP (pre ++ [x])).length : Int) := by
  unfold endsP
  rw [List.getElem?_map, List.getElem?_range (by simp)]
  simp only [Option.map_some]
  rw [show pre ++ x :: post = (pre ++ [x]) ++ post by simp, List.take_left' (by simp)]
theorem scan_cut {n j : Nat} (hn : n < 18446744073709551616) (hj : j < (varM n).length) : scanP ((varM n).take j) 0 0 = none := by
  cases h : scanP ((varM n).take j) 0 0 with
  | none => rfl
  | some r =>
    obtain ⟨v, i⟩ := r
    obtain ⟨h1, h2, h3⟩ := scanP_iff.1 h
    have h4 := scanP_var v 0 0 ((varM n).drop i) (by decide) (by simpa using h1) (by omega)
    have h5 := scanP_var n 0 0 [] (by decide) (by simpa using hn) (by omega)
    have h6 : (varM v).length ≤ j := by rw [h3]; simp; omega
    have h7 : varM v ++ (varM n).drop i = varM n := by
      rw [h3, List.take_take, Nat.min_eq_left (by omega), List.take_append_drop]
    rw [h7] at h4
    rw [List.append_nil, h4] at h5
    injection h5 with h5
    injection h5 with _ h5
    omega
theorem takeV_cut (pre post : List UInt8) (n cut : Nat) (hn : n < 18446744073709551616) (h : pre.length ≤ cut) :
    takeV ((pre ++ varM n ++ post).take cut) pre.length = if (pre ++ varM n).length ≤ cut then (n, (pre ++ varM n).length, 0) else (0, 0, 5) := by
  split
  · rename_i h1
    obtain ⟨k, rfl⟩ : ∃ k, cut = (pre ++ varM n).length + k := ⟨cut - (pre ++ varM n).length, by omega⟩
    rw [List.take_append, List.take_of_length_le (by omega), takeV_put _ _ n hn, List.length_append]
  · rename_i h1
    rw [List.length_append] at h1
    refine takeV_none (by simp; omega) ?_
    rw [List.drop_take, List.append_assoc, List.drop_left, List.take_append_of_le_length (by omega)]
    exact scan_cut hn (by omega)
theorem takeBy_cut (pre b post : List UInt8) (cut : Nat) (hb : b.length ≤ 300) (h : pre.length ≤ cut) :
    takeBy ((pre ++ (varM b.length ++ b) ++ post).take cut) pre.length 300 = if (pre ++ (varM b.length ++ b)).length ≤ cut then (b, (pre ++ (varM b.length ++ b)).length, 0) else ([], 0, 5) := by
  have h2 := takeV_cut pre (b ++ post) b.length cut (by omega) h
  rw [show pre ++ varM b.length ++ (b ++ post) = pre ++ (varM b.length ++ b) ++ post by simp] at h2
  unfold takeBy
  rw [h2]
  have hl : (pre ++ (varM b.length ++ b)).length = (pre ++ varM b.length).length + b.length := by simp [Nat.add_assoc]
  by_cases h3 : (pre ++ varM b.length).length ≤ cut
  · rw [if_pos h3]
    simp only [ne_eq, not_true_eq_false, if_false]
    rw [if_neg (by omega)]
    have h4 : ((pre ++ (varM b.length ++ b) ++ post).take cut).length - (pre ++ varM b.length).length = min (cut - (pre ++ varM b.length).length) (b.length + post.length) := by
      rw [List.length_take, List.length_append, hl]; omega
    rw [h4]
    by_cases h5 : (pre ++ (varM b.length ++ b)).length ≤ cut
    · rw [if_neg (by omega), if_pos h5, List.drop_take, show pre ++ (varM b.length ++ b) ++ post = (pre ++ varM b.length) ++ (b ++ post) by simp, List.drop_left, List.take_take, Nat.min_eq_left (by omega), List.take_left, hl]
    · rw [if_pos (by omega), if_neg h5]
  · rw [if_neg h3]
    simp only [ne_eq, if_neg (show ¬ (pre ++ (varM b.length ++ b)).length ≤ cut by omega)]
    rfl
/-- The pieces of step i. -/
def stepP (xs : List Nat) (bs : List (List UInt8)) (i : Nat) : List Pc := (xs[i]?.toList.map .num) ++ (bs[i]?.toList.map .str)
def toP (xs : List Nat) (bs : List (List UInt8)) : Nat → List Pc
  | 0 => []
  | i + 1 => toP xs bs i ++ stepP xs bs i
theorem toP_len (xs : List Nat) (bs : List (List UInt8)) (i : Nat) : (toP xs bs i).length ≤ 2 * i := by
  induction i with
  | zero => exact Nat.le_refl _
  | succ i ih =>
    have h1 : (stepP xs bs i).length ≤ 2 := by
      unfold stepP
      cases xs[i]? <;> cases bs[i]? <;> simp
    rw [toP, List.length_append]; omega
theorem toP_pre (xs : List Nat) (bs : List (List UInt8)) (i k : Nat) : ∃ post, toP xs bs (i + k) = toP xs bs i ++ post := by
  induction k with
  | zero => exact ⟨[], by simp⟩
  | succ k ih =>
    obtain ⟨p, hp⟩ := ih
    exact ⟨p ++ stepP xs bs (i + k), by rw [← Nat.add_assoc, toP, hp, List.append_assoc]⟩
end Go.Proofs.Ytoccilnobgoncaa.E
