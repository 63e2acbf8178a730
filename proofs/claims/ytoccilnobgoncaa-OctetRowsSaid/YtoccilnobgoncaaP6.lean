/- octet.Take, walked; what was put is taken: the plain law. -/
import Derived.Test.YtoccilnobgoncaaP2
namespace Go.Proofs.Ytoccilnobgoncaa.E
open Go Go.RowKit Go.Proofs
attribute [local irreducible] TK TL TQ TA Fn PV
def beN (l : List UInt8) : Nat := l.foldl (fun n c => n * 256 + c.toNat) 0
theorem beN_snoc (l : List UInt8) (c : UInt8) : beN (l ++ [c]) = beN l * 256 + c.toNat := by simp [beN]
theorem beN_lt (l : List UInt8) : beN l < 256 ^ l.length := by
  suffices h : ∀ r : List UInt8, beN r.reverse < 256 ^ r.length by simpa using h l.reverse
  intro r
  induction r with
  | nil => simp [beN]
  | cons c r ih =>
    rw [List.reverse_cons, beN_snoc, List.length_cons, Nat.pow_succ]
    have := c.toNat_lt
    omega
theorem beN_put (n k : Nat) : ∀ i, i ≤ k → beN (putB n k i) = n / 2 ^ (8 * (k - i)) % 2 ^ (8 * i)
  | 0, _ => by simp [putB, beN, Nat.mod_one]
  | i + 1, h => by
    rw [putB_succ, beN_snoc, beN_put n k i (by omega)]
    have h1 : (b8 (n / 2 ^ (8 * (k - 1 - i)))).toNat = n / 2 ^ (8 * (k - 1 - i)) % 256 := UInt8.toNat_ofNat'
    rw [h1, show k - (i + 1) = k - 1 - i by omega]
    obtain ⟨m, hm⟩ : ∃ m, n / 2 ^ (8 * (k - 1 - i)) = m := ⟨_, rfl⟩
    have h2 : n / 2 ^ (8 * (k - i)) = m / 256 := by
      rw [← hm, Nat.div_div_eq_div_mul, show (256 : Nat) = 2 ^ 8 from rfl, ← Nat.pow_add]
      congr 2; omega
    rw [h2, hm, show 8 * (i + 1) = 8 + 8 * i by omega, Nat.pow_add, Nat.mod_mul, show (2 : Nat) ^ 8 = 256 from rfl]
    omega
set_option maxRecDepth 100000 in
theorem take1_t (A : Option Addr) (m c : Nat) (l : List UInt8) (at_ k : Nat) (Γ : List HP) (hs : has Γ (srcAt 1 A m (bytesV l))) (hmc : m ≤ c) (hl : l.length ≤ 1000000000) (hk : 1 ≤ k ∧ k ≤ 8) (hat : at_ + k ≤ l.length) :
    FnV Try.prog 53 [.slice A m c, .int .i64 (at_ : Int), .int .i64 (k : Int)] Γ fun v Γ' => v = .tuple #[.int .u64 ((beN ((l.drop at_).take k) : Nat) : Int), .int .i64 ((at_ + k : Nat) : Int), .int .i64 0] ∧ Γ' = Γ := by
  refine Fn.enter Try.func53 rfl rfl rfl fun E => ?_
  refine TK.mem fun m0 hm0 => ?_
  obtain rfl := src_lenB (hs m0 hm0)
  refine m_run ?_
  (apply TL.callV; exact rfl; exact callB_of (by kernel_rfl); exact rfl; exact fun _ h => h)
  exact fixed_t k _
  rintro _ Γ ⟨rfl, rfl⟩
  refine m_run ?_
  (apply TL.callV; exact rfl; exact callB_of (by kernel_rfl); exact rfl; exact fun _ h => h)
  exact place_t A l.length c at_ _
  rintro _ Γ ⟨rfl, rfl⟩
  have e1 : IntKind.i64.wrap ((l.length : Int) - (at_ : Int)) = ((l.length - at_ : Nat) : Int) := by rw [i64_in (by omega) (by omega)]; omega
  have e2 : IntKind.i64.wrap ((at_ : Int) + (k : Int)) = ((at_ + k : Nat) : Int) := by rw [← Int.natCast_add, i64_nat (by omega)]
  refine m_run ?_
  refine TL.know (t := 30) (v := .int .i64 ((at_ + k : Nat) : Int)) (congrArg (Value.int .i64) e2) ?_
  (apply TL.sliceS (i := at_) (j := at_ + k); exact rfl; exact rfl; exact tb rfl; exact rfl; exact tb rfl; exact .some rfl; exact .some rfl; exact hs; omega; omega; omega)
  intro A' hs2
  have hs3 := has_part (l := l) (i := at_) hs2 (by omega)
  rw [show at_ + k - at_ = k by omega] at hs3 ⊢
  obtain ⟨cs, hcs⟩ : ∃ cs, (l.drop at_).take k = cs := ⟨_, rfl⟩
  have hcl : cs.length = k := by rw [← hcs, List.length_take, List.length_drop]; omega
  rw [hcs] at hs3 ⊢
  refine m_run ?_
  apply TK.iter (fun j ρ' Γ' => ∃ (i : Nat), i + j = k ∧ lk ρ' 1 = .int .i64 (at_ : Int) ∧ lk ρ' 2 = .int .i64 (k : Int) ∧ lk ρ' 6 = .int .u64 ((beN (cs.take i) : Nat) : Int) ∧ lk ρ' 31 = .slice A' k (c - at_) ∧ lk ρ' 32 = .int .i64 (k : Int) ∧ lk ρ' 33 = .int .i64 (i : Int) ∧ Γ' = Γ) k
  · exact ⟨0, by omega, rfl, rfl, rfl, rfl, rfl, rfl, rfl⟩
  rintro j IH ρ' Γ ⟨i, hij, e1', e2', e6, e31, e32, e33, rfl⟩
  refine TK.know6 e1' e2' e6 e31 e32 e33 ?_
  by_cases hi : i < k
  · obtain ⟨ch, hch⟩ : ∃ ch, cs[i]? = some ch := ⟨cs[i]'(by omega), by simp [hcl, hi]⟩
    have hst : cs.take (i + 1) = cs.take i ++ [ch] := by rw [List.take_add_one, hch]; rfl
    refine TK.mem fun m1 hm1 => ?_
    obtain ⟨b, o, rfl⟩ := src_some (hs3 m1 hm1) (by rw [bytesV_length]; omega)
    have hcell := has_byte hs3 hch
    have hb : beN (cs.take i) < 256 ^ 7 := by
      refine Nat.lt_of_lt_of_le (beN_lt _) (Nat.pow_le_pow_right (by decide) ?_)
      rw [List.length_take]; omega
    have hc8 := ch.toNat_lt
    refine m_run ?_
    refine IH (j - 1) _ _ (by omega) ⟨i + 1, by omega, rfl, rfl, congrArg (Value.int .u64) ?_, rfl, rfl, congrArg (Value.int .i64) (i64_succ i (by omega)), rfl⟩
    rw [hst, beN_snoc]
    have e5 : beN (cs.take i) * 2 ^ 8 % 2 ^ IntKind.u64.bits = beN (cs.take i) * 256 := Nat.mod_eq_of_lt (show _ < 2 ^ 64 by omega)
    rw [e5, u64_nat (by omega), ← Int.natCast_add, u64_nat (by omega)]
  · obtain rfl : i = k := by omega
    refine m_run ?_
    (apply TK.ret3; exact rfl; exact rfl; (exact m_val); (exact m_val); (exact m_val))
    refine ⟨_, rfl, ?_, rfl⟩
    rw [e2, List.take_of_length_le (by omega)]
/-! ### what was put is taken -/
theorem takeV_put (pre post : List UInt8) (n : Nat) (hn : n < 18446744073709551616) : takeV (pre ++ varM n ++ post) pre.length = (n, pre.length + (varM n).length, 0) := by
  refine takeV_ok (by simp) ?_
  rw [List.append_assoc, List.drop_left, scanP_var n 0 0 post (by decide) (by simpa using hn) (by omega)]
  simp
theorem takeBy_put (pre s post : List UInt8) (hs : s.length < 18446744073709551616) : takeBy (pre ++ varM s.length ++ s ++ post) pre.length s.length = (s, (pre ++ varM s.length ++ s).length, 0) := by
  have h := takeV_put pre (s ++ post) s.length hs
  rw [← List.append_assoc] at h
  unfold takeBy
  rw [h]
  simp only [ne_eq, not_true_eq_false, if_false]
  have hl : (pre ++ varM s.length).length = pre.length + (varM s.length).length := by simp
  rw [if_neg (by omega), if_neg (by simp only [List.length_append]; omega), ← hl, show pre ++ varM s.length ++ s ++ post = (pre ++ varM s.length) ++ (s ++ post) by simp, List.drop_left, List.take_left]
  simp [Nat.add_assoc]
theorem takeV_back {l : List UInt8} {n next : Nat} (h : takeV l 0 = (n, next, 0)) : n < 18446744073709551616 ∧ varM n = l.take next ∧ 1 ≤ next ∧ next ≤ l.length := by
  obtain ⟨h1, h2⟩ := takeV_le h rfl
  unfold takeV at h
  rw [if_pos ⟨by omega, by omega⟩] at h
  split at h
  · rename_i v j hs
    injection h with h3 h4
    injection h4 with h4 _
    have hs' : scanP l 0 0 = some (v, j) := hs
    obtain ⟨h5, h6, h7⟩ := scanP_iff.1 hs'
    have hp := varM_pos v
    have hj : next = j := by have : (0 : Int).toNat + j = next := h4; omega
    subst hj; subst h3
    exact ⟨h1, h7, by omega, h2⟩
  · injection h with _ h; injection h with _ h; cases h
theorem takeBy_back {l t : List UInt8} {most : Int} {end_ : Nat} (h : takeBy l 0 most = (t, end_, 0)) : varM t.length ++ t = l.take end_ ∧ 1 ≤ end_ ∧ end_ ≤ l.length := by
  unfold takeBy at h
  obtain ⟨⟨n, next, e⟩, hT⟩ : ∃ x, takeV l 0 = x := ⟨_, rfl⟩
  rw [hT] at h
  simp only at h
  split at h
  · rename_i he
    injection h with _ h; injection h with _ h
    exact (he h).elim
  · rename_i he
    have he0 : e = 0 := by simpa using he
    subst he0
    obtain ⟨h1, h2, h3, h4⟩ := takeV_back hT
    split at h
    · injection h with _ h; injection h with _ h; cases h
    · split at h
      · injection h with _ h; injection h with _ h; cases h
      · rename_i h5
        injection h with h6 h7
        injection h7 with h7 _
        subst h6; subst h7
        have hl : ((l.drop next).take n).length = n := by rw [List.length_take, List.length_drop]; omega
        rw [hl, h2]
        refine ⟨?_, by omega, by omega⟩
        rw [List.take_add]
end Go.Proofs.Ytoccilnobgoncaa.E
