/- The document's n-th name. -/
import Derived.Test.YtoccilnobgoncaaZ3
namespace Go.Proofs.Ytoccilnobgoncaa.E
open Go Go.RowKit Go.Proofs
attribute [local irreducible] TK TL TQ TA Fn PV
def dig (n : Nat) : UInt8 := UInt8.ofNat (97 + n % 26)
def digits (n : Nat) : List UInt8 := if _ : n < 26 then [dig n] else digits (n / 26) ++ [dig n]
termination_by n
decreasing_by omega
theorem digits_lt {n : Nat} (h : n < 26) : digits n = [dig n] := by rw [digits, dif_pos h]
theorem digits_ge {n : Nat} (h : ¬ n < 26) : digits n = digits (n / 26) ++ [dig n] := by rw [digits, dif_neg h]
theorem dig_nat (n : Nat) : (dig n).toNat = 97 + n % 26 := by
  unfold dig
  rw [UInt8.toNat_ofNat']
  omega
/-- What the loop still makes. -/
def nthR (n : Nat) (out : List UInt8) : List UInt8 := if n = 0 ∧ out ≠ [] then out else digits n ++ out
theorem nthR_step {n : Nat} {out : List UInt8} (h : 0 < n ∨ out = []) : nthR n out = nthR (n / 26) (dig n :: out) := by
  unfold nthR
  rw [if_neg (by rintro ⟨h1, h2⟩; rcases h with h | h; omega; exact h2 h)]
  by_cases h26 : n < 26
  · rw [digits_lt h26, if_pos ⟨by omega, by simp⟩]; rfl
  · rw [digits_ge h26, if_neg (by omega)]; simp
def nthM (n : Nat) : List UInt8 := [110, 95] ++ digits n
theorem nth_t (n : Nat) (Γ : List HP) (hn : n ≤ 1000000) : FnV Try.prog 28 [.int .i64 n] Γ fun v Γ' => v = strV (nthM n) ∧ Γ' = Γ := by
  refine Fn.enter Try.func28 rfl rfl rfl fun E => ?_
  refine m_run ?_
  apply TK.iter (fun j ρ' Γ' => ∃ (m : Nat) (out : List UInt8), (j = if m = 0 ∧ out ≠ [] then 0 else m + 1) ∧ out.length + m ≤ n + 1 ∧ nthR n [] = nthR m out ∧ lk ρ' 0 = .int .i64 m ∧ lk ρ' 3 = strV out ∧ Γ' = Γ) (n + 1)
  · exact ⟨n, [], by simp, by simp, rfl, rfl, rfl, rfl⟩
  rintro j IH ρ' Γ' ⟨m, out, hj, hm, hr, e0, e3, rfl⟩
  refine TK.know2 e0 e3 ?_
  have hbody : (0 < m ∨ out = []) → nthR n [] = nthR (m / 26) (dig m :: out) := fun h => hr.trans (nthR_step h)
  have hmod : (m : Int).tmod 26 = ((m % 26 : Nat) : Int) := rfl
  have hdiv : (m : Int).tdiv 26 = ((m / 26 : Nat) : Int) := rfl
  by_cases h0 : 0 < m
  · have hmm := Nat.mod_lt m (show 0 < 26 by decide)
    refine m_run ?_
    refine TL.know (t := 13) (v := .int .u8 ((dig m).toNat : Int)) (congrArg (Value.int .u8) (by rw [dig_nat, hmod, i64_in (by omega) (by omega), u8_in (by omega) (by omega)]; omega)) ?_
    (apply TL.buildSlice; exact rfl; exact tb rfl; exact rfl; exact tb rfl; exact rfl; exact rfl; exact rfl; exact rfl; (exact m_lst))
    intro b
    have hsr : has (row b [.int .u8 ((dig m).toNat : Int)] 5 :: Γ') (srcAt 1 (some ⟨b, 0, none⟩) 1 (bytesV [dig m])) := has_src_row 0 rfl rfl
    refine m_run ?_
    (apply TL.pv; exact rfl; (apply PV.catS (a := [dig m]); exact rfl; exact rfl))
    · show 1 + out.length ≤ _; omega
    refine m_run ?_
    refine TK.sub (Δ := Γ') (by (repeat (first | exact List.Sublist.refl _ | apply List.Sublist.cons_cons | apply List.Sublist.cons))) ?_
    refine IH _ _ _ ?_ ⟨m / 26, dig m :: out, rfl, by simp; omega, hbody (.inl h0), congrArg (Value.int .i64) (by rw [hdiv, i64_in (by omega) (by omega)]), rfl, rfl⟩
    rw [hj]
    rw [if_neg (c := m = 0 ∧ out ≠ []) (by rintro ⟨h, _⟩; omega)]; split <;> omega
  · obtain rfl : m = 0 := by omega
    by_cases ho : out = []
    · subst ho
      refine m_run ?_
      refine TL.know (t := 13) (v := .int .u8 ((dig 0).toNat : Int)) (congrArg (Value.int .u8) (by rw [dig_nat, hmod, i64_in (by omega) (by omega), u8_in (by omega) (by omega)]; omega)) ?_
      (apply TL.buildSlice; exact rfl; exact tb rfl; exact rfl; exact tb rfl; exact rfl; exact rfl; exact rfl; exact rfl; (exact m_lst))
      intro b
      have hsr : has (row b [.int .u8 ((dig 0).toNat : Int)] 5 :: Γ') (srcAt 1 (some ⟨b, 0, none⟩) 1 (bytesV [dig 0])) := has_src_row 0 rfl rfl
      refine m_run ?_
      (apply TL.pv; exact rfl; (apply PV.catS (a := [dig 0]); exact rfl; exact rfl))
      · show 1 + 0 ≤ _; omega
      refine m_run ?_
      refine TK.sub (Δ := Γ') (by (repeat (first | exact List.Sublist.refl _ | apply List.Sublist.cons_cons | apply List.Sublist.cons))) ?_
      refine IH _ _ _ ?_ ⟨0 / 26, dig 0 :: [], rfl, by simp, hbody (.inr rfl), congrArg (Value.int .i64) (by rw [hdiv, i64_in (by omega) (by omega)]), rfl, rfl⟩
      rw [hj]
      simp
    · have hrr : nthR 0 out = out := if_pos ⟨rfl, ho⟩
      rw [hrr] at hr
      refine m_run ?_
      (apply TL.pv; exact rfl; (apply PV.catS (a := [110, 95]); exact rfl; exact rfl))
      · show 2 + out.length ≤ _; omega
      refine m_run ?_
      (apply TK.ret1; exact rfl; (exact m_val))
      refine ⟨_, rfl, ?_, rfl⟩
      rw [nthM, ← hr]
      show strV ([110, 95] ++ nthR n []) = _
      unfold nthR
      simp
end Go.Proofs.Ytoccilnobgoncaa.E
