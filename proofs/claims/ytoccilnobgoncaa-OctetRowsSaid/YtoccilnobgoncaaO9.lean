/- octet.Put, octet.Take; roomy, kept: walked. -/
import Derived.Test.YtoccilnobgoncaaO8
namespace Go.Proofs.Ytoccilnobgoncaa.E
open Go Go.RowKit Go.Proofs
attribute [local irreducible] TK TL TQ TA Fn PV
theorem b8_mod {a b : Nat} (h : a % 256 = b % 256) : b8 a = b8 b := by
  apply UInt8.toNat_inj.1
  have h1 : (b8 a).toNat = a % 256 := UInt8.toNat_ofNat'
  have h2 : (b8 b).toNat = b % 256 := UInt8.toNat_ofNat'
  rw [h1, h2, h]
theorem put_byte (n k i : Nat) (hk : k ≤ 8) (hi : i < k) : b8 (rev64 (n * 2 ^ (8 * (8 - k)) % 2 ^ 64) / 2 ^ (8 * i)) = b8 (n / 2 ^ (8 * (k - 1 - i))) := by
  apply b8_mod
  have h := rev_byte (n * 2 ^ (8 * (8 - k)) % 2 ^ 64) i (by omega) (by omega)
  rw [show (2 : Nat) ^ 8 = 256 from rfl] at h
  rw [h, show (256 : Nat) = 2 ^ 8 from rfl]
  apply Nat.eq_of_testBit_eq
  intro b
  rw [Nat.testBit_mod_two_pow, Nat.testBit_mod_two_pow, Nat.testBit_div_two_pow, Nat.testBit_div_two_pow, Nat.testBit_mod_two_pow, Nat.testBit_mul_two_pow]
  by_cases hb : b < 8
  · have h1 : b + (56 - 8 * i) < 64 := by omega
    have h2 : 8 * (8 - k) ≤ b + (56 - 8 * i) := by omega
    have h3 : b + (56 - 8 * i) - 8 * (8 - k) = b + 8 * (k - 1 - i) := by omega
    simp only [hb, h1, h2, h3, decide_true, Bool.true_and]
  · simp [hb]
def putB (n k i : Nat) : List UInt8 := (List.range i).map fun i => b8 (n / 2 ^ (8 * (k - 1 - i)))
theorem putB_succ (n k i : Nat) : putB n k (i + 1) = putB n k i ++ [b8 (n / 2 ^ (8 * (k - 1 - i)))] := by simp [putB, List.range_succ]
theorem putB_length (n k i : Nat) : (putB n k i).length = i := by simp [putB]
theorem putM_in {l : List UInt8} {n k : Nat} (h : 1 ≤ k ∧ k ≤ 8) : putM l n k = l ++ putB n k k := by
  unfold putM putB
  rw [if_pos ⟨by omega, by omega⟩, Int.toNat_natCast]
theorem fixed_t (size : Int) (Γ : List HP) : FnV Try.prog 65 [.int .i64 size] Γ fun v Γ' => v = .bool (decide (1 ≤ size ∧ size ≤ 8)) ∧ Γ' = Γ := by
  refine Fn.enter Try.func65 rfl rfl rfl fun E => ?_
  by_cases h1 : 1 ≤ size
  · by_cases h2 : size ≤ 8
    · refine m_run ?_
      (apply TK.ret1; exact rfl; exact rfl; (exact m_val))
      exact ⟨_, rfl, by simp [h1, h2], rfl⟩
    · refine m_run ?_
      (apply TK.ret1; exact rfl; exact rfl; (exact m_val))
      exact ⟨_, rfl, by simp [h1, h2], rfl⟩
  · refine m_run ?_
    (apply TK.ret1; exact rfl; exact rfl; (exact m_val))
    exact ⟨_, rfl, by simp [h1], rfl⟩
set_option maxRecDepth 100000 in
theorem put_t (A : Option Addr) (m c : Nat) (l : List UInt8) (n : Nat) (size : Int) (Γ : List HP) (hs : has Γ (srcAt 1 A m (bytesV l))) (_ : n < 18446744073709551616) (hl : l.length ≤ 1000000000) :
    FnV Try.prog 52 [.slice A m c, .int .u64 (n : Int), .int .i64 size] Γ (RB 5 Γ (putM l n size)) := by
  refine Fn.enter Try.func52 rfl rfl rfl fun E => ?_
  by_cases hsz : 1 ≤ size ∧ size ≤ 8
  · obtain ⟨k, rfl⟩ : ∃ k : Nat, size = (k : Int) := ⟨size.toNat, by omega⟩
    have hk : 1 ≤ k ∧ k ≤ 8 := by omega
    rw [putM_in hk]
    refine m_run ?_
    (apply TL.callV; exact rfl; exact callB_of (by kernel_rfl); exact rfl; exact fun _ h => h)
    exact clone_t A m c l _ hs (by omega)
    rintro _ _ ⟨A2, c2, rfl, hc2, rfl⟩
    refine m_run ?_
    (apply TL.callV; exact rfl; exact callB_of (by kernel_rfl); exact rfl; exact fun _ h => h)
    exact fixed_t k _
    rintro _ _ ⟨rfl, rfl⟩
    refine m_run ?_
    refine TL.know (t := 18) (v := .int .i64 ((8 * (8 - k) : Nat) : Int)) (congrArg (Value.int .i64) (by rw [i64_in (x := 8 - (k : Int)) (by omega) (by omega), i64_in (by omega) (by omega)]; omega)) ?_
    (apply TL.pv; exact rfl; (apply PV.shlN (n := n) (m := 8 * (8 - k)); exact rfl; exact rfl; exact rfl; exact (show 8 * (8 - k) ≤ 64 by omega); exact rfl))
    (apply TL.callV; exact rfl; exact callB_of (by kernel_rfl); exact rfl; exact fun _ h => h)
    exact rev_t _ _ (Nat.mod_lt _ (by decide))
    rintro _ _ ⟨rfl, rfl⟩
    obtain ⟨h, hh⟩ : ∃ h, rev64 (n * 2 ^ (8 * (8 - k)) % 2 ^ IntKind.u64.bits) = h := ⟨_, rfl⟩
    rw [hh]
    refine m_run ?_
    apply TK.iter (fun j ρ' Γ' => ∃ (i : Nat) (A3 : Option Addr) (c3 : Nat), i + j = k ∧ (l ++ putB n k i).length ≤ c3 ∧ lk ρ' 7 = .slice A3 (l ++ putB n k i).length c3 ∧ lk ρ' 8 = .int .u64 ((h / 2 ^ (8 * i) : Nat) : Int) ∧ lk ρ' 21 = .int .i64 (k : Int) ∧ lk ρ' 22 = .int .i64 (i : Int) ∧ Γ' = bsA 5 (.slice A3 (l ++ putB n k i).length c3) (l ++ putB n k i) :: Γ) k
    · refine ⟨0, A2, c2, by omega, ?_, ?_, ?_, rfl, rfl, ?_⟩
      · simpa [putB] using hc2
      · simp [putB]; rfl
      · simp; rfl
      · simp [putB]
    rintro j IH ρ' Γ' ⟨i, A3, c3, hij, hc3, e7, e8, e21, e22, rfl⟩
    refine TK.know4 e7 e8 e21 e22 ?_
    by_cases hi : i < k
    · have hb : b8 (h / 2 ^ (8 * i)) = b8 (n / 2 ^ (8 * (k - 1 - i))) := by rw [← hh]; exact put_byte n k i hk.2 hi
      refine m_run ?_
      refine TL.know (t := 26) (v := .int .u8 ((b8 (n / 2 ^ (8 * (k - 1 - i)))).toNat : Int)) (congrArg (Value.int .u8) (by rw [u8_wrap, hb])) ?_
      (apply TL.buildSlice; exact rfl; exact tb rfl; exact rfl; exact tb rfl; exact rfl; exact rfl; exact rfl; exact rfl; (exact m_lst))
      intro b
      refine m_run ?_
      (apply TL.appB (s := [ b8 (n / 2 ^ (8 * (k - 1 - i)))]) 1; exact rfl; exact rfl; exact tb rfl; exact rfl; exact tb rfl; exact rfl; exact rfl; exact rfl; exact rfl; exact fun _ h => h; exact rfl; exact has_src_row 0 rfl rfl)
      · simp [putB_length]; omega
      · exact fun _ => (rfl : _ = _ :: _ :: _)
      intro A4 c4 hc4
      refine TL.drop ?_
      refine m_run ?_
      refine IH (j - 1) _ _ (by omega) ⟨i + 1, A4, c4, by omega, ?_, ?_, ?_, rfl, congrArg (Value.int .i64) (i64_succ i (by omega)), ?_⟩
      · rw [putB_succ, ← List.append_assoc]; exact hc4
      · rw [putB_succ, ← List.append_assoc]; rfl
      · refine congrArg (fun z : Nat => Value.int .u64 (z : Int)) ?_
        rw [Nat.div_div_eq_div_mul, ← Nat.pow_add, Nat.mul_succ]
      · rw [putB_succ, ← List.append_assoc]
    · obtain rfl : i = k := by omega
      refine m_run ?_
      (apply TK.ret1; exact rfl; exact rfl; (exact m_val))
      exact ⟨_, rfl, A3, c3, rfl, hc3, rfl⟩
  · have hr : putM l n size = l := by unfold putM; rw [if_neg hsz]
    rw [hr]
    refine m_run ?_
    (apply TL.callV; exact rfl; exact callB_of (by kernel_rfl); exact rfl; exact fun _ h => h)
    exact clone_t A m c l _ hs (by omega)
    rintro _ _ ⟨A2, c2, rfl, hc2, rfl⟩
    refine m_run ?_
    (apply TL.callV; exact rfl; exact callB_of (by kernel_rfl); exact rfl; exact fun _ h => h)
    exact fixed_t size _
    rintro _ _ ⟨rfl, rfl⟩
    refine m_run ?_
    (apply TK.ret1; exact rfl; exact rfl; (exact m_val))
    exact ⟨_, rfl, A2, c2, rfl, hc2, rfl⟩
set_option maxRecDepth 100000 in
/-- Memory with room behind. -/
theorem roomy_t (A : Option Addr) (m c : Nat) (l : List UInt8) (Γ : List HP) (hs : has Γ (srcAt 1 A m (bytesV l))) (hl : l.length ≤ 1000000000) :
    FnV Try.prog 41 [.slice A m c] Γ fun v Γ' => ∃ g, v = .slice (some ⟨g, 0, none⟩) l.length (l.length + 30) ∧ Γ' = row g (bytesV (l ++ List.replicate 30 0)) 5 :: Γ := by
  refine Fn.enter Try.func41 rfl rfl rfl fun E => ?_
  refine TK.mem fun m0 hm0 => ?_
  obtain rfl := src_lenB (hs m0 hm0)
  refine m_run ?_
  refine TL.know (t := 5) (v := .int .i64 ((l.length + 30 : Nat) : Int)) (congrArg (Value.int .i64) (by rw [i64_in (by omega) (by omega)]; omega)) ?_
  (apply TL.makeRow (n := 0) (c := l.length + 30); exact rfl; exact rfl; exact rfl; exact tb rfl; exact rfl; exact tb rfl; exact rfl; exact rfl)
  · omega
  · show 1 * _ ≤ _; omega
  · unfold maxLen; omega
  intro g
  refine m_run ?_
  (apply TL.appRoom (n := 0) (m := l.length) (cap := l.length + 30) (cur' := bytesV (l ++ List.replicate 30 0)) 0; exact rfl; exact rfl; exact tb rfl; exact rfl; exact tb rfl; exact rfl; exact rfl; exact rfl; (exact m_hsrc); exact bytesV_one l)
  · simp
  · omega
  · have e : (List.replicate (l.length + 30) (Value.int .u8 0)).drop (0 * 1 + (bytesV l).length) = bytesV (List.replicate 30 0) := by
      rw [List.drop_replicate, bytesV_length]
      have : l.length + 30 - (0 * 1 + l.length) = 30 := by omega
      rw [this]; rfl
    rw [bytesV_append, ← e]
    rfl
  · exact rfl
  refine m_run ?_
  (apply TK.ret1; exact rfl; exact rfl; (exact m_val))
  exact ⟨_, rfl, g, by rw [Nat.zero_add], rfl⟩
end Go.Proofs.Ytoccilnobgoncaa.E
