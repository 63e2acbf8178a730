/- The document's Var, PutVar, PutBytes; the program's parts, PutVar: walked. -/
import Derived.Test.YtoccilnobgoncaaO1
namespace Go.Proofs.Ytoccilnobgoncaa.E
open Go Go.RowKit Go.Proofs
attribute [local irreducible] TK TL TQ TA Fn PV
theorem varM_len (n : Nat) (h : n < 18446744073709551616) : (varM n).length ≤ 10 := by
  have : ∀ k n, n < 128 ^ (k + 1) → (varM n).length ≤ k + 1 := by
    intro k
    induction k with
    | zero => intro n hn; rw [varM_lt (by simpa using hn)]; simp
    | succ k ih =>
      intro n hn
      by_cases h : n < 128
      · rw [varM_lt h]; simp
      · rw [varM_ge h, List.length_cons]
        have : n / 128 < 128 ^ (k + 1) := by
          rw [Nat.div_lt_iff_lt_mul (by decide), ← Nat.pow_succ]; exact hn
        have := ih _ this
        omega
  exact this 9 n (by omega)
set_option maxRecDepth 100000 in
theorem var_t (n : Nat) (Γ : List HP) (hn : n < 18446744073709551616) : FnV Try.prog 61 [.int .u64 (n : Int)] Γ (RB 5 Γ (varM n)) := by
  refine Fn.enter Try.func61 rfl rfl rfl fun E => ?_
  refine TK.free (H := bsA 5 (.slice none 0 0) []) (fun m h => bs_nil _ h) ?_
  refine m_run ?_
  apply TK.iter (fun j ρ' Γ' => ∃ (k : Nat) (o : List UInt8) (A : Option Addr) (c : Nat), k ≤ j ∧ k < 18446744073709551616 ∧ o.length ≤ 18446744073709551616 ∧ varM n = o ++ varM k ∧ lk ρ' 0 = .int .u64 (k : Int) ∧ lk ρ' 3 = .slice A o.length c ∧ Γ' = bsA 5 (.slice A o.length c) o :: Γ) n
  · exact ⟨n, [], none, 0, Nat.le_refl _, hn, by decide, rfl, rfl, rfl, rfl⟩
  rintro j IH ρ' Γ' ⟨k, o, A, c, hkj, hk, ho, hv, e0, e3, rfl⟩
  refine TK.know2 e0 e3 ?_
  have hol : o.length ≤ 20 := by
    have h1 := varM_len n hn
    rw [hv, List.length_append] at h1
    omega
  by_cases hlt : k < 128
  · refine m_run ?_
    refine TL.know (t := 17) (v := .int .u8 ((b8 k).toNat : Int)) (congrArg (Value.int .u8) (u8_wrap k)) ?_
    (apply TL.buildSlice; exact rfl; exact tb rfl; exact rfl; exact tb rfl; exact rfl; exact rfl; exact rfl; exact rfl; (exact m_lst))
    intro b
    refine m_run ?_
    (apply TL.appB (s := [ b8 k]) 1; exact rfl; exact rfl; exact tb rfl; exact rfl; exact tb rfl; exact rfl; exact rfl; exact rfl; exact rfl; exact fun _ h => h; exact rfl; exact has_src_row 0 rfl rfl)
    · simp; omega
    · exact fun _ => (rfl : _ = _ :: _ :: _)
    intro A' c' hc
    refine TL.drop ?_
    refine m_run ?_
    (apply TK.ret1; exact rfl; exact rfl; (exact m_val))
    refine ⟨_, rfl, ?_⟩
    rw [hv, varM_lt hlt]
    exact ⟨_, _, rfl, hc, rfl⟩
  · refine m_run ?_
    refine TL.know (t := 10) (v := .int .u8 ((b8 (k % 128 + 128)).toNat : Int)) (congrArg (Value.int .u8) ?_) ?_
    · rw [show ((k % 128 : Nat) : Int) + 128 = ((k % 128 + 128 : Nat) : Int) by omega, u64_nat (by omega), u8_wrap]
    (apply TL.buildSlice; exact rfl; exact tb rfl; exact rfl; exact tb rfl; exact rfl; exact rfl; exact rfl; exact rfl; (exact m_lst))
    intro b
    refine m_run ?_
    (apply TL.appB (s := [ b8 (k % 128 + 128)]) 1; exact rfl; exact rfl; exact tb rfl; exact rfl; exact tb rfl; exact rfl; exact rfl; exact rfl; exact rfl; exact fun _ h => h; exact rfl; exact has_src_row 0 rfl rfl)
    · simp; omega
    · exact fun _ => (rfl : _ = _ :: _ :: _)
    intro A' c' hc
    refine TL.drop ?_
    refine m_run ?_
    refine IH (k / 128) _ _ (by omega) ⟨k / 128, o ++ [b8 (k % 128 + 128)], A', c', Nat.le_refl _, by omega, by simp; omega, ?_, congrArg (Value.int .u64) ?_, rfl, rfl⟩
    · rw [hv, varM_ge hlt, List.append_assoc]; rfl
    · rw [show (k : Int).tdiv 128 = ((k / 128 : Nat) : Int) from rfl, u64_nat (by omega)]
set_option maxRecDepth 100000 in
theorem refputvar_t (A : Option Addr) (m c : Nat) (l : List UInt8) (n : Nat) (Γ : List HP) (hs : has Γ (srcAt 1 A m (bytesV l))) (hn : n < 18446744073709551616) (hl : l.length ≤ 1000000000) :
    FnV Try.prog 45 [.slice A m c, .int .u64 (n : Int)] Γ (RB 5 Γ (l ++ varM n)) := by
  refine Fn.enter Try.func45 rfl rfl rfl fun E => ?_
  have hv := varM_len n hn
  refine m_run ?_
  (apply TL.buildSlice; exact rfl; exact tb rfl; exact rfl; exact tb rfl; exact rfl; exact rfl; exact rfl; exact rfl; (exact m_lst))
  intro b
  refine m_run ?_
  (apply TL.appB 0; exact rfl; exact rfl; exact tb rfl; exact rfl; exact tb rfl; exact rfl; exact rfl; exact rfl; exact rfl; exact fun _ h => bs_row (l := []) rfl rfl (by decide) h; exact rfl; (exact m_hsrc))
  · simp; omega
  · exact fun _ => (rfl : _ = _ :: _)
  intro A' c' hc
  refine m_run ?_
  (apply TL.callV; exact rfl; exact callB_of (by kernel_rfl); exact rfl; exact fun _ h => h)
  exact var_t n _ hn
  rintro _ _ ⟨A2, c2, rfl, hc2, rfl⟩
  refine m_run ?_
  (apply TL.appB 1; exact rfl; exact rfl; exact tb rfl; exact rfl; exact tb rfl; exact rfl; exact rfl; exact rfl; exact rfl; exact fun _ h => h; exact rfl; (exact m_hsrc))
  · simp; omega
  · exact fun _ => (rfl : _ = _ :: _ :: _)
  intro A3 c3 hc3
  refine m_run ?_
  (apply TK.retS1; exact rfl; exact rfl; (exact m_val))
  · exact ⟨_, rfl, _, _, rfl, hc3, rfl⟩
  · (repeat (first | exact List.Sublist.refl _ | apply List.Sublist.cons_cons | apply List.Sublist.cons))
set_option maxRecDepth 100000 in
theorem refputbytes_t (A B : Option Addr) (m c m' c' : Nat) (l s : List UInt8) (Γ : List HP) (hs : has Γ (srcAt 1 A m (bytesV l))) (hs' : has Γ (srcAt 1 B m' (bytesV s))) (hl : l.length ≤ 1000000000) (hl' : s.length ≤ 1000000000) :
    FnV Try.prog 49 [.slice A m c, .slice B m' c'] Γ (RB 5 Γ (l ++ varM s.length ++ s)) := by
  refine Fn.enter Try.func49 rfl rfl rfl fun E => ?_
  refine TK.mem fun m0 hm0 => ?_
  obtain rfl := src_lenB (hs' m0 hm0)
  have hv := varM_len s.length (by omega)
  refine m_run ?_
  refine TL.know (t := 8) (v := .int .u64 (s.length : Int)) (congrArg (Value.int .u64) (u64_nat (by omega))) ?_
  (apply TL.callV; exact rfl; exact callB_of (by kernel_rfl); exact rfl; exact fun _ h => h)
  exact refputvar_t A m c l s.length _ hs (by omega) hl
  rintro _ _ ⟨A2, c2, rfl, hc2, rfl⟩
  refine m_run ?_
  (apply TL.appB 0; exact rfl; exact rfl; exact tb rfl; exact rfl; exact tb rfl; exact rfl; exact rfl; exact rfl; exact rfl; exact fun _ h => h; exact rfl; (exact m_hsrc))
  · simp; omega
  · exact fun _ => (rfl : _ = _ :: _)
  intro A3 c3 hc3
  refine m_run ?_
  (apply TK.ret1; exact rfl; exact rfl; (exact m_val))
  exact ⟨_, rfl, _, _, rfl, hc3, rfl⟩
end Go.Proofs.Ytoccilnobgoncaa.E
