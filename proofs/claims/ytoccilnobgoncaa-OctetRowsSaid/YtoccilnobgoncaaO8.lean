/- bits.ReverseBytes64; Put, Take: walked. -/
import Derived.Test.YtoccilnobgoncaaO7
namespace Go.Proofs.Ytoccilnobgoncaa.E
open Go Go.RowKit Go.Proofs
attribute [local irreducible] TK TL TQ TA Fn PV
def M8 : BitVec 64 := 71777214294589695#64
def M16 : BitVec 64 := 281470681808895#64
theorem m8_bit : ∀ j : Fin 64, M8.getLsbD j = decide (j.val / 8 % 2 = 0) := by decide +kernel
theorem m16_bit : ∀ j : Fin 64, M16.getLsbD j = decide (j.val / 16 % 2 = 0) := by decide +kernel
def swap8 (X : BitVec 64) : BitVec 64 := ((X >>> 8) &&& M8) ||| ((X &&& M8) <<< 8)
def swap16 (X : BitVec 64) : BitVec 64 := ((X >>> 16) &&& M16) ||| ((X &&& M16) <<< 16)
def swap32 (X : BitVec 64) : BitVec 64 := (X >>> 32) ||| (X <<< 32)
theorem swap8_bit (X : BitVec 64) (j : Nat) (hj : j < 64) : (swap8 X).getLsbD j = X.getLsbD (if j / 8 % 2 = 0 then j + 8 else j - 8) := by
  have h1 := m8_bit ⟨j, hj⟩
  have h2 := m8_bit ⟨j - 8, by omega⟩
  simp only at h1 h2
  simp only [swap8, BitVec.getLsbD_or, BitVec.getLsbD_and, BitVec.getLsbD_ushiftRight, BitVec.getLsbD_shiftLeft, h1, h2, hj, decide_true, Bool.true_and]
  by_cases hp : j / 8 % 2 = 0
  · by_cases h8 : j < 8
    · simp [hp, h8, Nat.add_comm]
    · have : ¬ (j - 8) / 8 % 2 = 0 := by omega
      simp [hp, this, Nat.add_comm]
  · have h3 : (j - 8) / 8 % 2 = 0 := by omega
    have h4 : ¬ j < 8 := by omega
    simp [hp, h3, h4]
theorem swap16_bit (X : BitVec 64) (j : Nat) (hj : j < 64) : (swap16 X).getLsbD j = X.getLsbD (if j / 16 % 2 = 0 then j + 16 else j - 16) := by
  have h1 := m16_bit ⟨j, hj⟩
  have h2 := m16_bit ⟨j - 16, by omega⟩
  simp only at h1 h2
  simp only [swap16, BitVec.getLsbD_or, BitVec.getLsbD_and, BitVec.getLsbD_ushiftRight, BitVec.getLsbD_shiftLeft, h1, h2, hj, decide_true, Bool.true_and]
  by_cases hp : j / 16 % 2 = 0
  · by_cases h8 : j < 16
    · simp [hp, h8, Nat.add_comm]
    · have : ¬ (j - 16) / 16 % 2 = 0 := by omega
      simp [hp, this, Nat.add_comm]
  · have h3 : (j - 16) / 16 % 2 = 0 := by omega
    have h4 : ¬ j < 16 := by omega
    simp [hp, h3, h4]
theorem swap32_bit (X : BitVec 64) (j : Nat) (hj : j < 64) : (swap32 X).getLsbD j = X.getLsbD (if j < 32 then j + 32 else j - 32) := by
  simp only [swap32, BitVec.getLsbD_or, BitVec.getLsbD_ushiftRight, BitVec.getLsbD_shiftLeft, hj, decide_true, Bool.true_and]
  by_cases hp : j < 32
  · simp [hp, Nat.add_comm]
  · have : X.getLsbD (32 + j) = false := BitVec.getLsbD_of_ge _ _ (by omega)
    simp [hp, this]
def rev64 (n : Nat) : Nat := (swap32 (swap16 (swap8 (BitVec.ofNat 64 n)))).toNat
theorem rev64_lt (n : Nat) : rev64 n < 18446744073709551616 := BitVec.isLt _
theorem rev_bit (X : BitVec 64) (j : Nat) (hj : j < 64) : (swap32 (swap16 (swap8 X))).getLsbD j = X.getLsbD (56 - j / 8 * 8 + j % 8) := by
  rw [swap32_bit _ _ hj]
  by_cases h1 : j < 32
  · rw [if_pos h1, swap16_bit _ _ (by omega)]
    by_cases h2 : (j + 32) / 16 % 2 = 0
    · rw [if_pos h2, swap8_bit _ _ (by omega)]
      by_cases h3 : (j + 32 + 16) / 8 % 2 = 0
      · rw [if_pos h3]; congr 1; omega
      · rw [if_neg h3]; congr 1; omega
    · rw [if_neg h2, swap8_bit _ _ (by omega)]
      by_cases h3 : (j + 32 - 16) / 8 % 2 = 0
      · rw [if_pos h3]; congr 1; omega
      · rw [if_neg h3]; congr 1; omega
  · rw [if_neg h1, swap16_bit _ _ (by omega)]
    by_cases h2 : (j - 32) / 16 % 2 = 0
    · rw [if_pos h2, swap8_bit _ _ (by omega)]
      by_cases h3 : (j - 32 + 16) / 8 % 2 = 0
      · rw [if_pos h3]; congr 1; omega
      · rw [if_neg h3]; congr 1; omega
    · rw [if_neg h2, swap8_bit _ _ (by omega)]
      by_cases h3 : (j - 32 - 16) / 8 % 2 = 0
      · rw [if_pos h3]; congr 1; omega
      · rw [if_neg h3]; congr 1; omega
theorem rev_byte (n i : Nat) (hi : i < 8) (hn : n < 18446744073709551616) : rev64 n / 2 ^ (8 * i) % 2 ^ 8 = n / 2 ^ (56 - 8 * i) % 2 ^ 8 := by
  apply Nat.eq_of_testBit_eq
  intro b
  rw [Nat.testBit_mod_two_pow, Nat.testBit_mod_two_pow, Nat.testBit_div_two_pow, Nat.testBit_div_two_pow]
  by_cases hb : b < 8
  · simp only [hb, decide_true, Bool.true_and]
    unfold rev64
    rw [BitVec.testBit_toNat, rev_bit _ _ (by omega), ← BitVec.testBit_toNat, BitVec.toNat_ofNat, Nat.mod_eq_of_lt (by omega)]
    congr 1; omega
  · simp [hb]
theorem and_bv (n : Nat) (c : Int) (m : Nat) (hc : c = (m : Int)) : bitsOf .and .u64 (n : Int) c = (((BitVec.ofNat 64 n &&& BitVec.ofNat 64 m).toNat : Nat) : Int) := by
  subst hc
  unfold bitsOf
  simp only [BitVec.ofInt_natCast]
  rw [wrap_nat rfl]
  congr 1
  exact Nat.mod_eq_of_lt (BitVec.isLt _)
theorem or_bv (n m : Nat) : bitsOf .or .u64 (n : Int) (m : Int) = (((BitVec.ofNat 64 n ||| BitVec.ofNat 64 m).toNat : Nat) : Int) := by
  unfold bitsOf
  simp only [BitVec.ofInt_natCast]
  rw [wrap_nat rfl]
  congr 1
  exact Nat.mod_eq_of_lt (BitVec.isLt _)
theorem ofNat_toNat' (X : BitVec 64) : BitVec.ofNat 64 X.toNat = X := by simp
theorem abs64 : (2 ^ IntKind.u64.bits : Int).natAbs = 18446744073709551616 := by decide
theorem shl_bv (A : BitVec 64) (k : Nat) : BitVec.ofNat 64 (A.toNat % (2 ^ IntKind.u64.bits : Int).natAbs * 2 ^ k % 2 ^ IntKind.u64.bits) = A <<< k := by
  apply BitVec.eq_of_toNat_eq
  rw [abs64, Nat.mod_eq_of_lt (a := A.toNat) A.isLt, BitVec.toNat_ofNat, BitVec.toNat_shiftLeft, Nat.shiftLeft_eq]
  exact Nat.mod_mod _ _
theorem shr_bv (X : BitVec 64) (k : Nat) : BitVec.ofNat 64 (X.toNat / 2 ^ k) = X >>> k := by
  apply BitVec.eq_of_toNat_eq
  rw [BitVec.toNat_ofNat, BitVec.toNat_ushiftRight, Nat.shiftRight_eq_div_pow]
  exact Nat.mod_eq_of_lt (Nat.lt_of_le_of_lt (Nat.div_le_self _ _) X.isLt)
theorem swap8_val (X : BitVec 64) : bitsOf .or .u64 (bitsOf .and .u64 ((X.toNat / 2 ^ 8 : Nat) : Int) 71777214294589695) (((BitVec.ofInt IntKind.u64.bits (X.toNat : Int) &&& BitVec.ofInt IntKind.u64.bits 71777214294589695).toNat % (2 ^ IntKind.u64.bits : Int).natAbs * 2 ^ 8 % 2 ^ IntKind.u64.bits : Nat) : Int) = ((swap8 X).toNat : Int) := by
  rw [and_bv _ 71777214294589695 71777214294589695 rfl, or_bv, ofNat_toNat', shr_bv]
  have h := shl_bv (X &&& M8) 8
  rw [show (BitVec.ofInt IntKind.u64.bits (X.toNat : Int) &&& BitVec.ofInt IntKind.u64.bits 71777214294589695) = X &&& M8 by rw [BitVec.ofInt_natCast, show BitVec.ofNat IntKind.u64.bits X.toNat = X from ofNat_toNat' X]; rfl]
  exact congrArg (fun z : BitVec 64 => ((((X >>> 8 &&& M8) ||| z).toNat : Nat) : Int)) h
theorem swap16_val (X : BitVec 64) : bitsOf .or .u64 (bitsOf .and .u64 ((X.toNat / 2 ^ 16 : Nat) : Int) 281470681808895) (((BitVec.ofInt IntKind.u64.bits (X.toNat : Int) &&& BitVec.ofInt IntKind.u64.bits 281470681808895).toNat % (2 ^ IntKind.u64.bits : Int).natAbs * 2 ^ 16 % 2 ^ IntKind.u64.bits : Nat) : Int) = ((swap16 X).toNat : Int) := by
  rw [and_bv _ 281470681808895 281470681808895 rfl, or_bv, ofNat_toNat', shr_bv]
  have h := shl_bv (X &&& M16) 16
  rw [show (BitVec.ofInt IntKind.u64.bits (X.toNat : Int) &&& BitVec.ofInt IntKind.u64.bits 281470681808895) = X &&& M16 by rw [BitVec.ofInt_natCast, show BitVec.ofNat IntKind.u64.bits X.toNat = X from ofNat_toNat' X]; rfl]
  exact congrArg (fun z : BitVec 64 => ((((X >>> 16 &&& M16) ||| z).toNat : Nat) : Int)) h
theorem swap32_val (X : BitVec 64) : bitsOf .or .u64 ((X.toNat / 2 ^ 32 : Nat) : Int) ((X.toNat * 2 ^ 32 % 2 ^ IntKind.u64.bits : Nat) : Int) = ((swap32 X).toNat : Int) := by
  rw [or_bv, shr_bv]
  have h := shl_bv X 32
  rw [abs64, Nat.mod_eq_of_lt (a := X.toNat) X.isLt] at h
  rw [h]; rfl
set_option maxRecDepth 100000 in
theorem rev_t (n : Nat) (Γ : List HP) (hn : n < 18446744073709551616) : FnV Try.prog 66 [.int .u64 (n : Int)] Γ fun v Γ' => v = .int .u64 (rev64 n : Int) ∧ Γ' = Γ := by
  obtain ⟨X, hX⟩ : ∃ X : BitVec 64, BitVec.ofNat 64 n = X := ⟨_, rfl⟩
  obtain rfl : n = X.toNat := by rw [← hX, BitVec.toNat_ofNat, Nat.mod_eq_of_lt (by omega)]
  refine Fn.enter Try.func66 rfl rfl rfl fun E => ?_
  (repeat (first | refine TK.seq ?_ | refine TK.block ?_ | refine TK.skip ?_ | refine TK.label ?_)); refine TK.region ?_
  refine m_rrun ?_
  refine TL.nil ?_
  (repeat (first | refine TK.seq ?_ | refine TK.block ?_ | refine TK.skip ?_ | refine TK.label ?_)); refine TK.region ?_
  refine m_rrun ?_
  refine TL.know (t := 0) (v := .int .u64 ((swap8 X).toNat : Int)) (congrArg (Value.int .u64) (swap8_val X)) ?_
  refine TL.nil ?_
  (repeat (first | refine TK.seq ?_ | refine TK.block ?_ | refine TK.skip ?_ | refine TK.label ?_)); refine TK.region ?_
  refine m_rrun ?_
  refine TL.know (t := 0) (v := .int .u64 ((swap16 (swap8 X)).toNat : Int)) (congrArg (Value.int .u64) (swap16_val _)) ?_
  refine TL.nil ?_
  refine m_run ?_
  (apply TK.ret1; exact rfl; exact rfl; (exact m_val))
  refine ⟨_, rfl, ?_, rfl⟩
  refine (congrArg (Value.int .u64) (swap32_val _)).trans ?_
  unfold rev64
  rw [ofNat_toNat']
def putM (l : List UInt8) (n : Nat) (size : Int) : List UInt8 := if 1 ≤ size ∧ size ≤ 8 then l ++ (List.range size.toNat).map (fun i => b8 (n / 2 ^ (8 * (size.toNat - 1 - i)))) else l
end Go.Proofs.Ytoccilnobgoncaa.E
