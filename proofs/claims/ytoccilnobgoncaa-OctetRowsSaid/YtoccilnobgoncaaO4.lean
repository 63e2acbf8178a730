/- bits.Mul64; the program's TakeVar and the document's: walked. -/
import Derived.Test.YtoccilnobgoncaaO3
namespace Go.Proofs.Ytoccilnobgoncaa.E
open Go Go.RowKit Go.Proofs
attribute [local irreducible] TK TL TQ TA Fn PV
theorem mul64_t (x y : Nat) (Γ : List HP) (hx : x < 4294967296) (hy : y < 18446744073709551616) : FnV Try.prog 63 [.int .u64 (x : Int), .int .u64 (y : Int)] Γ fun v Γ' => v = .tuple #[.int .u64 ((x * y / 2 ^ 64 : Nat) : Int), .int .u64 ((x * y % 2 ^ 64 : Nat) : Int)] ∧ Γ' = Γ := by
  refine Fn.enter Try.func63 rfl rfl rfl fun E => ?_
  have hx0 : x % 2 ^ 32 = x := Nat.mod_eq_of_lt (by omega)
  have hx1 : x / 2 ^ 32 = 0 := Nat.div_eq_of_lt (by omega)
  obtain ⟨y0, hy0⟩ : ∃ y0, y % 2 ^ 32 = y0 := ⟨_, rfl⟩
  obtain ⟨y1, hy1⟩ : ∃ y1, y / 2 ^ 32 = y1 := ⟨_, rfl⟩
  have hyy : y = y1 * 2 ^ 32 + y0 := by omega
  have h0 : y0 < 4294967296 := by omega
  have h1 : y1 < 4294967296 := by omega
  have hp0 : x * y0 ≤ 4294967295 * 4294967295 := Nat.mul_le_mul (by omega) (by omega)
  have hp1 : x * y1 ≤ 4294967295 * 4294967295 := Nat.mul_le_mul (by omega) (by omega)
  refine m_run ?_
  (apply TK.ret2; exact rfl; exact rfl; (exact m_val); (exact m_val))
  refine ⟨_, rfl, ?_, rfl⟩
  have hn : (2 ^ IntKind.u64.bits : Int).natAbs = 18446744073709551616 := by decide
  have hlo : IntKind.u64.wrap ((x : Int) * (y : Int)) = ((x * y % 2 ^ 64 : Nat) : Int) := by rw [← Int.natCast_mul, wrap_nat rfl]; rfl
  rw [hlo, hn, hx0, hx1, hy0, hy1]
  simp only [Nat.zero_mul, Nat.zero_mod, Nat.zero_add]
  have e1 : x * y0 % 18446744073709551616 = x * y0 := Nat.mod_eq_of_lt (by omega)
  have e2 : x * y1 % 18446744073709551616 = x * y1 := Nat.mod_eq_of_lt (by omega)
  have e3 : x * y = x * y1 * 4294967296 + x * y0 := by rw [hyy, Nat.mul_add, Nat.mul_assoc]
  rw [e1, e2]
  generalize hA : x * y0 = a at *
  generalize hB : x * y1 = b at *
  have e4 : IntKind.u64.wrap (((0 : Nat) : Int) * ((y1 : Nat) : Int)) = ((0 : Nat) : Int) := by rw [← Int.natCast_mul, Nat.zero_mul]; exact u64_nat (by decide)
  rw [e4]
  have e5 : a / 2 ^ 32 % 18446744073709551616 / 2 ^ 32 = 0 := by omega
  have e6 : a / 2 ^ 32 % 18446744073709551616 % 2 ^ 32 = a / 2 ^ 32 := by omega
  rw [e5, e6, ← Int.natCast_add, Nat.zero_add, u64_nat (by decide), ← Int.natCast_add, Nat.zero_add, u64_nat (by omega), e3]
  congr 4
  omega
/-- What is taken at a place: the number, the place behind, the error. -/
def takeV (l : List UInt8) (at_ : Int) : Nat × Nat × Nat :=
  if 0 ≤ at_ ∧ at_ ≤ l.length then (match scanP (l.drop at_.toNat) 0 0 with | some (v, j) => (v, at_.toNat + j, 0) | none => (0, 0, 5)) else (0, 0, 1)
def tkV (x : Nat × Nat × Nat) : Value := .tuple #[.int .u64 (x.1 : Int), .int .i64 (x.2.1 : Int), .int .i64 (x.2.2 : Int)]
theorem takeV_ok {l : List UInt8} {k v j : Nat} (hk : k ≤ l.length) (h : scanP (l.drop k) 0 0 = some (v, j)) : takeV l k = (v, k + j, 0) := by
  unfold takeV
  rw [if_pos ⟨by omega, by omega⟩, Int.toNat_natCast, h]
theorem takeV_none {l : List UInt8} {k : Nat} (hk : k ≤ l.length) (h : scanP (l.drop k) 0 0 = none) : takeV l k = (0, 0, 5) := by
  unfold takeV
  rw [if_pos ⟨by omega, by omega⟩, Int.toNat_natCast, h]
theorem scanP_stop {c : UInt8} {cs : List UInt8} {k n : Nat} (h : 63 < 7 * k ∨ 2 ^ 64 ≤ c.toNat % 128 * 2 ^ (7 * k) ∨ (c.toNat = 0 ∧ 0 < k)) : scanP (c :: cs) k n = none := by rw [scanP, if_pos h]
theorem scanP_last {c : UInt8} {cs : List UInt8} {k n : Nat} (h : ¬ (63 < 7 * k ∨ 2 ^ 64 ≤ c.toNat % 128 * 2 ^ (7 * k) ∨ (c.toNat = 0 ∧ 0 < k))) (hc : c.toNat < 128) : scanP (c :: cs) k n = some (n + c.toNat % 128 * 2 ^ (7 * k), k + 1) := by rw [scanP, if_neg h, if_pos hc]
theorem scanP_on {c : UInt8} {cs : List UInt8} {k n : Nat} (h : ¬ (63 < 7 * k ∨ 2 ^ 64 ≤ c.toNat % 128 * 2 ^ (7 * k) ∨ (c.toNat = 0 ∧ 0 < k))) (hc : ¬ c.toNat < 128) : scanP (c :: cs) k n = scanP cs (k + 1) (n + c.toNat % 128 * 2 ^ (7 * k)) := by rw [scanP, if_neg h, if_neg hc]
set_option maxRecDepth 100000 in
theorem takevar_t (A : Option Addr) (m c : Nat) (l : List UInt8) (at_ : Int) (Γ : List HP) (hs : has Γ (srcAt 1 A m (bytesV l))) (hmc : m ≤ c) (hl : l.length ≤ 1000000000) :
    FnV Try.prog 46 [.slice A m c, .int .i64 at_] Γ fun v Γ' => v = tkV (takeV l at_) ∧ Γ' = Γ := by
  refine Fn.enter Try.func46 rfl rfl rfl fun E => ?_
  refine TK.mem fun m0 hm0 => ?_
  obtain rfl := src_lenB (hs m0 hm0)
  by_cases hat : 0 ≤ at_ ∧ at_ ≤ l.length
  · obtain ⟨k, rfl⟩ : ∃ k : Nat, at_ = (k : Int) := ⟨at_.toNat, by omega⟩
    have hk : k ≤ l.length := by omega
    refine m_run ?_
    (apply TL.callV; exact rfl; exact callB_of (by kernel_rfl); exact rfl; exact fun _ h => h)
    exact place_t A l.length c (k : Int) _
    rintro _ Γ ⟨rfl, rfl⟩
    refine m_run ?_
    (apply TL.sliceS (i := k) (j := l.length); exact rfl; exact rfl; exact tb rfl; exact rfl; exact tb rfl; exact .some rfl; exact .none; (exact m_hsrc); exact hk; exact Nat.le_refl _; exact hmc)
    intro A' hs2
    have hs3 := has_part (l := l) (i := k) hs2 (by omega)
    rw [List.take_of_length_le (by simp)] at hs3
    obtain ⟨cs, hcs⟩ : ∃ cs, l.drop k = cs := ⟨_, rfl⟩
    have hcl : l.length - k = cs.length := by rw [← hcs]; simp
    rw [hcs, hcl] at hs3
    rw [hcl]
    refine m_run ?_
    apply TK.iter (fun j ρ' Γ' => ∃ (i n : Nat), i + j = cs.length ∧ 7 * i ≤ 70 ∧ n < 2 ^ (7 * i) ∧ scanP cs 0 0 = scanP (cs.drop i) i n ∧ lk ρ' 0 = .slice A l.length c ∧ lk ρ' 1 = .int .i64 (k : Int) ∧ lk ρ' 4 = .int .u64 (n : Int) ∧ lk ρ' 7 = .int .i64 ((7 * i : Nat) : Int) ∧ lk ρ' 18 = .slice A' cs.length (c - k) ∧ lk ρ' 19 = .int .i64 (cs.length : Int) ∧ lk ρ' 20 = .int .i64 (i : Int) ∧ Γ' = Γ) cs.length
    · exact ⟨0, 0, by omega, by omega, by decide, rfl, rfl, rfl, rfl, rfl, rfl, rfl, rfl, rfl⟩
    rintro j IH ρ' Γ ⟨i, n, hij, hi7, hn, hsc, e0, e1, e4, e7, e18, e19, e20, rfl⟩
    refine TK.know7 e0 e1 e4 e7 e18 e19 e20 ?_
    by_cases hi : i < cs.length
    · obtain ⟨ch, hch⟩ : ∃ ch, cs[i]? = some ch := ⟨cs[i], by simp [hi]⟩
      have hcons : cs.drop i = ch :: cs.drop (i + 1) := by
        have := (List.getElem?_eq_some_iff.1 hch).2
        rw [← this]; exact List.drop_eq_getElem_cons hi
      rw [hcons] at hsc
      refine TK.mem fun m1 hm1 => ?_
      obtain ⟨b, o, rfl⟩ := src_some (hs3 m1 hm1) (by rw [bytesV_length]; omega)
      have hcell := has_byte hs3 hch
      have hc8 := ch.toNat_lt
      obtain ⟨s, hs0⟩ : ∃ s, min (7 * i) 63 = s := ⟨_, rfl⟩
      obtain ⟨P, hP⟩ : ∃ P, ch.toNat % 128 * 2 ^ s = P := ⟨_, rfl⟩
      obtain ⟨hi_, hhi⟩ : ∃ h, P / 2 ^ 64 = h := ⟨_, rfl⟩
      obtain ⟨lo_, hlo⟩ : ∃ h, P % 2 ^ 64 = h := ⟨_, rfl⟩
      have hps : (2 : Nat) ^ s < 18446744073709551616 := Nat.lt_of_le_of_lt (Nat.pow_le_pow_right (by decide) (show s ≤ 63 by omega)) (by decide)
      have hcall := mul64_t (ch.toNat % 128) (2 ^ s) Γ (by omega) hps
      rw [hP, hhi, hlo] at hcall
      refine m_run ?_
      refine TL.know (t := 30) (v := .int .i64 (s : Int)) (congrArg (Value.int .i64) (by split <;> omega)) ?_
      refine TL.know (t := 28) (v := .int .u64 ((ch.toNat % 128 : Nat) : Int)) (congrArg (Value.int .u64) (u64_nat (by omega))) ?_
      (apply TL.pv; exact rfl; (apply PV.shlN (n := 1) (m := s); exact rfl; exact rfl; exact rfl; exact (show s ≤ 64 by omega); exact rfl))
      refine TL.know (t := 31) (v := .int .u64 ((2 ^ s : Nat) : Int)) (congrArg (Value.int .u64) (congrArg Nat.cast (by rw [Nat.one_mul]; exact Nat.mod_eq_of_lt hps))) ?_
      (apply TL.callV; exact rfl; exact callB_of (by kernel_rfl); exact rfl; exact fun _ h => h)
      exact hcall
      rintro _ Γ ⟨rfl, rfl⟩
      have key : 63 < 7 * i ∨ s = 7 * i := by omega
      by_cases hbad : 63 < 7 * i ∨ 2 ^ 64 ≤ ch.toNat % 128 * 2 ^ (7 * i) ∨ (ch.toNat = 0 ∧ 0 < i)
      · rw [scanP_stop hbad] at hsc
        by_cases h63 : 63 < 7 * i
        · refine m_run ?_
          (apply TK.ret3; exact rfl; exact rfl; (exact m_val); (exact m_val); (exact m_val))
          refine ⟨_, rfl, ?_, rfl⟩
          rw [takeV_none hk (by rw [hcs, hsc])]; rfl
        · have hs7 : s = 7 * i := by omega
          subst hs7
          by_cases hh : 0 < hi_
          · refine m_run ?_
            (apply TK.ret3; exact rfl; exact rfl; (exact m_val); (exact m_val); (exact m_val))
            refine ⟨_, rfl, ?_, rfl⟩
            rw [takeV_none hk (by rw [hcs, hsc])]; rfl
          · have h0 : ch.toNat = 0 ∧ 0 < i := by
              rcases hbad with h | h | h
              · exact (h63 h).elim
              · omega
              · exact h
            obtain ⟨h01, h02⟩ := h0
            refine m_run ?_
            (apply TK.ret3; exact rfl; exact rfl; (exact m_val); (exact m_val); (exact m_val))
            refine ⟨_, rfl, ?_, rfl⟩
            rw [takeV_none hk (by rw [hcs, hsc])]; rfl
      · have h63 : ¬ 63 < 7 * i := fun h => hbad (.inl h)
        have h64 : ¬ 2 ^ 64 ≤ ch.toNat % 128 * 2 ^ (7 * i) := fun h => hbad (.inr (.inl h))
        have hz : ¬ (ch.toNat = 0 ∧ 0 < i) := fun h => hbad (.inr (.inr h))
        have hs7 : s = 7 * i := by omega
        subst hs7
        have hhi0 : hi_ = 0 := by omega
        have hlo0 : lo_ = ch.toNat % 128 * 2 ^ (7 * i) := by omega
        have hsum : n + lo_ < 2 ^ (7 * (i + 1)) := by
          have h5 : ch.toNat % 128 < 128 := Nat.mod_lt _ (by decide)
          rw [hlo0, pow_step]
          calc n + ch.toNat % 128 * 2 ^ (7 * i) < 2 ^ (7 * i) + ch.toNat % 128 * 2 ^ (7 * i) := by omega
            _ = (ch.toNat % 128 + 1) * 2 ^ (7 * i) := by rw [Nat.add_mul, Nat.one_mul, Nat.add_comm]
            _ ≤ 128 * 2 ^ (7 * i) := Nat.mul_le_mul_right _ h5
        have hsum2 : n + lo_ < 18446744073709551616 := by
          have hp := pow7_le h63
          have h4 : ch.toNat % 128 < 2 ^ (64 - 7 * i) := by
            apply Nat.lt_of_mul_lt_mul_right (a := 2 ^ (7 * i))
            rw [Nat.mul_comm (2 ^ (64 - 7 * i)), hp]; omega
          have h6 : (ch.toNat % 128 + 1) * 2 ^ (7 * i) ≤ 2 ^ (64 - 7 * i) * 2 ^ (7 * i) := Nat.mul_le_mul_right _ h4
          rw [Nat.mul_comm (2 ^ (64 - 7 * i)), hp, Nat.add_mul, Nat.one_mul] at h6
          omega
        by_cases hlast : ch.toNat < 128
        · rw [scanP_last hbad hlast, ← hlo0] at hsc
          have e1 : IntKind.u64.wrap ((n : Int) + (lo_ : Int)) = ((n + lo_ : Nat) : Int) := by rw [← Int.natCast_add, u64_nat hsum2]
          have e2 : IntKind.i64.wrap ((k : Int) + (i : Int)) = ((k + i : Nat) : Int) := by rw [← Int.natCast_add, i64_nat (by omega)]
          have e3 : IntKind.i64.wrap (IntKind.i64.wrap ((k : Int) + (i : Int)) + 1) = ((k + (i + 1) : Nat) : Int) := by rw [e2, i64_in (by omega) (by omega)]; omega
          have fin : Value.tuple #[.int .u64 (IntKind.u64.wrap ((n : Int) + (lo_ : Int))), .int .i64 (IntKind.i64.wrap (IntKind.i64.wrap ((k : Int) + (i : Int)) + 1)), .int .i64 0] = tkV (takeV l k) := by
            rw [takeV_ok hk (by rw [hcs, hsc]), e1, e3]; rfl
          by_cases hc0 : ch.toNat = 0
          · have hi0 : i = 0 := by omega
            refine m_run ?_
            (apply TK.ret3; exact rfl; exact rfl; (exact m_val); (exact m_val); (exact m_val))
            exact ⟨_, rfl, fin, rfl⟩
          · refine m_run ?_
            (apply TK.ret3; exact rfl; exact rfl; (exact m_val); (exact m_val); (exact m_val))
            exact ⟨_, rfl, fin, rfl⟩
        · rw [scanP_on hbad hlast, ← hlo0] at hsc
          refine m_run ?_
          refine IH (j - 1) _ _ (by omega) ⟨i + 1, n + lo_, by omega, by omega, hsum, hsc, rfl, rfl, ?_, ?_, rfl, rfl, congrArg (Value.int .i64) (i64_succ i (by omega)), rfl⟩
          · exact congrArg (Value.int .u64) (by rw [← Int.natCast_add, u64_nat hsum2])
          · exact congrArg (Value.int .i64) (by rw [i64_in (by omega) (by omega)]; omega)
    · obtain rfl : i = cs.length := by omega
      rw [List.drop_length] at hsc
      refine m_run ?_
      (apply TK.ret3; exact rfl; exact rfl; (exact m_val); (exact m_val); (exact m_val))
      refine ⟨_, rfl, ?_, rfl⟩
      rw [takeV_none hk (by rw [hcs, hsc]; rfl)]; rfl
  · refine m_run ?_
    (apply TL.callV; exact rfl; exact callB_of (by kernel_rfl); exact rfl; exact fun _ h => h)
    exact place_t A l.length c at_ _
    rintro _ _ ⟨rfl, rfl⟩
    refine m_run ?_
    (apply TK.ret3; exact rfl; exact rfl; (exact m_val); (exact m_val); (exact m_val))
    refine ⟨_, rfl, ?_, rfl⟩
    unfold takeV
    rw [if_neg hat]; rfl
end Go.Proofs.Ytoccilnobgoncaa.E
