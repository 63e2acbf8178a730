/- What the law's there-and-back statements need of the plain law. -/
import Derived.Test.YtokggdgagfmacaaXo
namespace Go.Proofs.Ytokggdgagfmacaa.E
open Go Go.RowKit Go.Proofs
theorem tookS_inv {α : Type} {zero x : α} {may : α → Bool} {f : Nat → Option (α × Nat)} {n next : Nat} {at_ : Int} (h : tookS zero may f n at_ = (x, next, 0)) : 0 ≤ at_ ∧ at_ ≤ n ∧ f at_.toNat = some (x, next) ∧ may x = true := by
  unfold tookS at h
  split at h
  · rename_i hat
    split at h
    · rename_i z hz
      obtain ⟨z1, z2⟩ := z
      split at h
      · rename_i hm
        injection h with h1 h2
        injection h2 with h2 _
        subst h1; subst h2
        exact ⟨hat.1, hat.2, hz, hm⟩
      · injection h with h1 h2; injection h2 with h2 h3; cases h3
    · injection h with h1 h2; injection h2 with h2 h3; cases h3
  · injection h with h1 h2; injection h2 with h2 h3; cases h3
theorem tookS_err {α : Type} {zero x : α} {may : α → Bool} {f : Nat → Option (α × Nat)} {n next e k : Nat} (hk : k ≤ n) (h : tookS zero may f n (k : Int) = (x, next, e)) (he : e ≠ 0) : x = zero ∧ next = 0 ∧ e = 5 := by
  unfold tookS at h
  rw [if_pos ⟨by omega, by omega⟩] at h
  split at h
  · split at h
    · injection h with h1 h2; injection h2 with h2 h3; exact absurd h3.symm he
    · injection h with h1 h2; injection h2 with h2 h3; exact ⟨h1.symm, h2.symm, h3.symm⟩
  · injection h with h1 h2; injection h2 with h2 h3; exact ⟨h1.symm, h2.symm, h3.symm⟩
theorem mayA_ok {a : Atm} (h : mayA a.l = true) (hf : a.fit) : atmOk (a.p, a.l) := ⟨hf.1, mayA_len h, hf.2⟩
theorem mayC_ok {c : Cl} (h : mayC c = true) (hf : c.fit) : clOk (clVal c) := by
  obtain ⟨h1, h2, h3⟩ := mayC_inv h
  refine ⟨⟨hf.1.1, h2, hf.1.2⟩, by simpa [clVal] using h1, fun x hx => ?_⟩
  obtain ⟨y, hy, rfl⟩ := List.mem_map.1 hx
  exact ⟨(hf.2 y hy).1, h3 y hy, (hf.2 y hy).2⟩
theorem mayY_ok {y : Sy} (h : mayY y = true) (hf : y.fit) : sayOk (syVal y) := by
  unfold mayY at h
  rw [Bool.and_eq_true] at h
  refine ⟨hf.1, fun hs => ?_, hf.2.1, mayA_len h.2, hf.2.2⟩
  have h1 := h.1
  unfold whoY at h1
  rw [show y.s = false from hs] at h1
  rw [if_neg (by decide)] at h1
  exact of_decide_eq_true h1
theorem mayR_ok {c : Rl} (h : mayR c = true) (hf : c.fit) : rlOk (rlVal c) := by
  have h0 := mayR_inv h
  rw [mayR_eq, Bool.and_eq_true, Bool.and_eq_true] at h
  refine ⟨mayY_ok h.2.1 hf.1, by simpa [rlVal] using h0.1, fun x hx => ?_⟩
  obtain ⟨y, hy, rfl⟩ := List.mem_map.1 hx
  refine mayY_ok ?_ (hf.2 y hy)
  have h1 : (c.l.any fun x => !mayY x.y) = false := by simpa using h.1
  have h2 := List.any_eq_false.1 h1 y hy
  simpa using h2
theorem back_f {pre post : List UInt8} {f : Fct} (hf : f.fit) (h6 : f.l.length ≤ 6) : tookF (pre ++ fctB f ++ post) (pre.length : Int) = ((f.p, f.l), (pre ++ fctB f).length, 0) :=
  tookS_ok (by simp) (rd_fct.put pre (f.p, f.l) post ⟨hf.1, h6, hf.2⟩) rfl
theorem back_c {pre post : List UInt8} {c : Cl} (hf : c.fit) (hm : mayC c = true) : tookC (pre ++ clB c ++ post) (pre.length : Int) = (clVal c, (pre ++ clB c).length, 0) := by
  rw [clBV_eq]
  exact tookS_ok (by simp) (rd_cl.put pre (clVal c) post (mayC_ok hm hf)) (by rw [← mayCV_eq]; exact hm)
theorem back_r {pre post : List UInt8} {c : Rl} (hf : c.fit) (hm : mayR c = true) : tookR (pre ++ rlB c ++ post) (pre.length : Int) = (rlVal c, (pre ++ rlB c).length, 0) := by
  rw [rlBV_eq]
  exact tookS_ok (by simp) (rd_rl.put pre (rlVal c) post (mayR_ok hm hf)) (by rw [← mayRV_eq]; exact hm)
theorem got_f {l : List UInt8} {x : Nat × List Nat} {next : Nat} (h : tookF l 0 = (x, next, 0)) (A : Option Addr) (k : Nat) : next ≤ l.length ∧ fctB ⟨x.1, A, k, x.2⟩ = l.take next ∧ x.2.length ≤ 6 := by
  obtain ⟨_, _, h1, _⟩ := tookS_inv h
  obtain ⟨a, b, c, d⟩ := rd_fct.take l 0 x next h1 (Nat.zero_le _)
  have := take_key b (Nat.zero_le _) d
  exact ⟨c, by rw [this]; simp [fctB, nmsB], a.2.1⟩
theorem got_c {l : List UInt8} {x : PA × List (Bool × PA)} {next : Nat} (h : tookC l 0 = (x, next, 0)) {c : Cl} (hc : clVal c = x) : next ≤ l.length ∧ clB c = l.take next ∧ mayC c = true := by
  obtain ⟨_, _, h1, h2⟩ := tookS_inv h
  obtain ⟨a, b, c', d⟩ := rd_cl.take l 0 x next h1 (Nat.zero_le _)
  have := take_key b (Nat.zero_le _) d
  exact ⟨c', by rw [this, clBV_eq, hc]; simp, by rw [mayCV_eq, hc]; exact h2⟩
theorem got_r {l : List UInt8} {x : PY × List (Bool × PY)} {next : Nat} (h : tookR l 0 = (x, next, 0)) {c : Rl} (hc : rlVal c = x) : next ≤ l.length ∧ rlB c = l.take next ∧ mayR c = true := by
  obtain ⟨_, _, h1, h2⟩ := tookS_inv h
  obtain ⟨a, b, c', d⟩ := rd_rl.take l 0 x next h1 (Nat.zero_le _)
  have := take_key b (Nat.zero_le _) d
  exact ⟨c', by rw [this, rlBV_eq, hc]; simp, by rw [mayRV_eq, hc]; exact h2⟩
/-- Of a rule's bytes that were cut there is no rule. -/
theorem cut_r {c : Rl} (hf : c.fit) (hm : mayR c = true) {k : Nat} (hk : k < (rlB c).length) : tookR ((rlB c).take k) 0 = (((false, ⟨false, 0⟩, 0, []), []), 0, 5) := by
  cases hr : rlS ((rlB c).take k) 0 with
  | none => exact tookS_bad (k := 0) (Nat.zero_le _) hr
  | some z =>
    exfalso
    obtain ⟨x, k'⟩ := z
    obtain ⟨a, b, c', d⟩ := rd_rl.take _ 0 x k' hr (Nat.zero_le _)
    rw [List.take_zero, List.nil_append] at d
    have e : rlB c = [] ++ rlBV x ++ (((rlB c).take k).drop k' ++ (rlB c).drop k) := by
      rw [List.nil_append, ← List.append_assoc, ← d, List.take_append_drop]
    have h1 := rd_rl.put [] x (((rlB c).take k).drop k' ++ (rlB c).drop k) a
    rw [← e] at h1
    have h2 := rd_rl.put [] (rlVal c) [] (mayR_ok hm hf)
    rw [← rlBV_eq, List.nil_append, List.append_nil] at h2
    rw [show ([] : List UInt8).length = 0 from rfl] at h1 h2
    rw [h1] at h2
    injection h2 with h2
    injection h2 with h2 h3
    rw [List.nil_append] at h3
    rw [List.length_take] at c'
    omega
end Go.Proofs.Ytokggdgagfmacaa.E
