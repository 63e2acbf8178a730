/- Vars as bytes, both packages: walked. -/
import Derived.Test.YtokggdgagfmacaaSm
import Derived.Test.YtokggdgagfmacaaSf
import Derived.Test.YtokggdgagfmacaaO0
namespace Go.Proofs.Ytokggdgagfmacaa.E
open Go Go.RowKit Go.Proofs
section
/- Vars as bytes: bytes.Clone, the document's Var, the program's PutVar, walked (from O1, O2, O3). -/
attribute [local irreducible] TK TL TQ TA Fn PV
set_option maxRecDepth 100000 in
theorem clone_t (A : Option Addr) (n c : Nat) (l : List UInt8) (Γ : List HP) (hs : has Γ (srcAt 1 A n (bytesV l))) (hlim : l.length ≤ 1099511627776) :
    FnV Try.prog 59 [.slice A n c] Γ (RB 5 Γ l) := by
  refine Fn.enter Try.func59 rfl rfl rfl fun E => ?_
  refine TK.mem fun m hm => ?_
  obtain rfl := src_lenB (hs m hm)
  cases A with
  | none =>
    have hl : l = [] := by
      rcases (hs m hm).2 with h | ⟨_, _, h, _⟩
      · exact List.map_eq_nil_iff.1 h
      · cases h
    subst hl
    refine m_run ?_
    refine TK.free (H := bsA 5 (.slice none 0 0) []) (fun m h => bs_nil _ h) ?_
    (apply TK.ret1; exact rfl; exact rfl; (exact m_val))
    exact ⟨_, rfl, _, _, rfl, Nat.le_refl _, rfl⟩
  | some a =>
    refine m_run ?_
    (apply TL.buildSlice; exact rfl; exact tb rfl; exact rfl; exact tb rfl; exact rfl; exact rfl; exact rfl; exact rfl; (exact m_lst))
    intro b
    refine m_run ?_
    (apply TL.appB 0; exact rfl; exact rfl; exact tb rfl; exact rfl; exact tb rfl; exact rfl; exact rfl; exact rfl; exact rfl; exact fun _ h => bs_row (l := []) rfl rfl (by decide) h; exact rfl; (exact m_hsrc))
    · simp; omega
    · exact fun _ => (rfl : _ = _ :: _)
    intro A' c' hc
    refine m_run ?_
    (apply TK.ret1; exact rfl; exact rfl; (exact m_val))
    exact ⟨_, rfl, _, _, rfl, hc, rfl⟩
theorem varM_len (n : Nat) (h : n < 18446744073709551616) : (varM n).length ≤ 10 := by
  have : ∀ k n, n < 128 ^ (k + 1) → (varM n).length ≤ k + 1 := by
    intro k
    induction k with
    | zero => intro n hn; rw [varM_lt (by simpa using hn)]; simp
    | succ k ih =>
      intro n hn
      by_cases h : n < 128
      · rw [varM_lt h]; simp
      · rw [varM_ge h, List.length_cons]
        have : n / 128 < 128 ^ (k + 1) := by
          rw [Nat.div_lt_iff_lt_mul (by decide), ← Nat.pow_succ]; exact hn
        have := ih _ this
        omega
  exact this 9 n (by omega)
set_option maxRecDepth 100000 in
theorem var_t (n : Nat) (Γ : List HP) (hn : n < 18446744073709551616) : FnV Try.prog 62 [.int .u64 (n : Int)] Γ (RB 5 Γ (varM n)) := by
  refine Fn.enter Try.func62 rfl rfl rfl fun E => ?_
  refine TK.free (H := bsA 5 (.slice none 0 0) []) (fun m h => bs_nil _ h) ?_
  refine m_run ?_
  apply TK.iter (fun j ρ' Γ' => ∃ (k : Nat) (o : List UInt8) (A : Option Addr) (c : Nat), k ≤ j ∧ k < 18446744073709551616 ∧ o.length ≤ 18446744073709551616 ∧ varM n = o ++ varM k ∧ lk ρ' 0 = .int .u64 (k : Int) ∧ lk ρ' 3 = .slice A o.length c ∧ Γ' = bsA 5 (.slice A o.length c) o :: Γ) n
  · exact ⟨n, [], none, 0, Nat.le_refl _, hn, by decide, rfl, rfl, rfl, rfl⟩
  rintro j IH ρ' Γ' ⟨k, o, A, c, hkj, hk, ho, hv, e0, e3, rfl⟩
  refine TK.know2 e0 e3 ?_
  have hol : o.length ≤ 20 := by
    have h1 := varM_len n hn
    rw [hv, List.length_append] at h1
    omega
  by_cases hlt : k < 128
  · refine m_run ?_
    refine TL.know (t := 17) (v := .int .u8 ((b8 k).toNat : Int)) (congrArg (Value.int .u8) (u8_wrap k)) ?_
    (apply TL.buildSlice; exact rfl; exact tb rfl; exact rfl; exact tb rfl; exact rfl; exact rfl; exact rfl; exact rfl; (exact m_lst))
    intro b
    refine m_run ?_
    (apply TL.appB (s := [ b8 k]) 1; exact rfl; exact rfl; exact tb rfl; exact rfl; exact tb rfl; exact rfl; exact rfl; exact rfl; exact rfl; exact fun _ h => h; exact rfl; exact has_src_row 0 rfl rfl)
    · simp; omega
    · exact fun _ => (rfl : _ = _ :: _ :: _)
    intro A' c' hc
    refine TL.drop ?_
    refine m_run ?_
    (apply TK.ret1; exact rfl; exact rfl; (exact m_val))
    refine ⟨_, rfl, ?_⟩
    rw [hv, varM_lt hlt]
    exact ⟨_, _, rfl, hc, rfl⟩
  · refine m_run ?_
    refine TL.know (t := 10) (v := .int .u8 ((b8 (k % 128 + 128)).toNat : Int)) (congrArg (Value.int .u8) ?_) ?_
    · rw [show ((k % 128 : Nat) : Int) + 128 = ((k % 128 + 128 : Nat) : Int) by omega, u64_nat (by omega), u8_wrap]
    (apply TL.buildSlice; exact rfl; exact tb rfl; exact rfl; exact tb rfl; exact rfl; exact rfl; exact rfl; exact rfl; (exact m_lst))
    intro b
    refine m_run ?_
    (apply TL.appB (s := [ b8 (k % 128 + 128)]) 1; exact rfl; exact rfl; exact tb rfl; exact rfl; exact tb rfl; exact rfl; exact rfl; exact rfl; exact rfl; exact fun _ h => h; exact rfl; exact has_src_row 0 rfl rfl)
    · simp; omega
    · exact fun _ => (rfl : _ = _ :: _ :: _)
    intro A' c' hc
    refine TL.drop ?_
    refine m_run ?_
    refine IH (k / 128) _ _ (by omega) ⟨k / 128, o ++ [b8 (k % 128 + 128)], A', c', Nat.le_refl _, by omega, by simp; omega, ?_, congrArg (Value.int .u64) ?_, rfl, rfl⟩
    · rw [hv, varM_ge hlt, List.append_assoc]; rfl
    · rw [show (k : Int).tdiv 128 = ((k / 128 : Nat) : Int) from rfl, u64_nat (by omega)]
theorem parts_t (n : Nat) (Γ : List HP) : FnV Try.prog 126 [.int .u64 (n : Int)] Γ fun v Γ' => ∃ b, v = .func (.func 141) #[] #[.pointer (some ⟨b, 0, none⟩)] ∧ Γ' = row b [.int .u64 (n : Int)] 91 :: Γ := by
  refine Fn.enter Try.func126 rfl rfl rfl fun E => ?_
  refine m_run ?_
  (apply TL.box; exact rfl; exact rfl; (exact m_lst))
  intro b
  refine m_run ?_
  (apply TL.pv; exact rfl; (apply PV.makeFunc; exact rfl; exact rfl))
  refine m_run ?_
  (apply TK.ret1; exact rfl; exact rfl; (exact m_val))
  exact ⟨_, rfl, b, rfl, rfl⟩
theorem or128 : ∀ a, a < 256 → a ||| 128 = a % 128 + 128 := by decide +kernel
theorem b8_or (k : Nat) : bitsOf .or .u8 ((b8 k).toNat : Int) 128 = ((b8 (k % 128 + 128)).toNat : Int) := by
  have h1 : (b8 k).toNat = k % 256 := UInt8.toNat_ofNat'
  rw [show (128 : Int) = ((128 : Nat) : Int) from rfl, bits_or rfl (UInt8.toNat_lt _) (by decide), or128 _ (UInt8.toNat_lt _), h1, b8_nat (by omega)]
  congr 2; omega
/-- The iterator, whatever the loop does that goes on. -/
theorem parts1_t (l : Nat) (D : LD) (hD : D.ps.size = 1) (pb : Nat) (S : List UInt8 → List HP → Prop) (n : Nat) (hn : n < 18446744073709551616)
    (round : ∀ pre c x Δ, pre.length < (varM n).length → S pre Δ → Rnd Try.prog l D [.int .u8 (c.toNat : Int)] (loopA l D .ready none :: row pb [x] 91 :: Δ) fun t Γ' => t = true ∧ ∃ Δ', S (pre ++ [c]) Δ' ∧ Γ' = loopA l D .ready none :: row pb [x] 91 :: Δ')
    (Δ : List HP) (h0 : S [] Δ) :
    FnV Try.prog 141 [.func (.yield l) #[] #[], .pointer (some ⟨pb, 0, none⟩)] (loopA l D .ready none :: row pb [.int .u64 (n : Int)] 91 :: Δ) fun _ Γ' => ∃ x Δ', S (varM n) Δ' ∧ Γ' = loopA l D .ready none :: row pb [x] 91 :: Δ' := by
  refine Fn.enterIn Try.func141 rfl rfl rfl fun E => ?_
  refine m_run ?_
  apply TK.iter (fun j ρ' Γ' => ∃ (k : Nat) (o : List UInt8) (Δ' : List HP), k ≤ j ∧ k < 18446744073709551616 ∧ varM n = o ++ varM k ∧ S o Δ' ∧ lk ρ' 0 = .func (.yield l) #[] #[] ∧ lk ρ' 1 = .pointer (some ⟨pb, 0, none⟩) ∧ Γ' = loopA l D .ready none :: row pb [.int .u64 (k : Int)] 91 :: Δ') n
  · exact ⟨n, [], Δ, Nat.le_refl _, hn, rfl, h0, rfl, rfl, rfl⟩
  rintro j IH ρ' Γ' ⟨k, o, Δ', hkj, hk, hv, hS, e0, e1, rfl⟩
  refine TK.know2 e0 e1 ?_
  by_cases hlt : k < 128
  · refine m_run ?_
    refine TL.know (t := 15) (v := .int .u8 ((b8 k).toNat : Int)) (congrArg (Value.int .u8) (u8_wrap k)) ?_
    (apply TL.yield 0; exact rfl; exact rfl; exact rfl; exact rfl; exact rfl; exact (by simp [hD]); exact round o (b8 k) _ Δ' (by rw [hv, List.length_append]; have := varM_pos k; omega) hS)
    rintro _ _ ⟨rfl, Δ2, hS2, rfl⟩
    refine m_run ?_
    (apply TK.over0; exact rfl; exact rfl)
    refine ⟨_, rfl, _, Δ2, ?_, rfl⟩
    rw [hv, varM_lt hlt]; exact hS2
  · refine m_run ?_
    refine TL.know (t := 8) (v := .int .u8 ((b8 (k % 128 + 128)).toNat : Int)) (congrArg (Value.int .u8) ?_) ?_
    · rw [u8_wrap, b8_or]
    (apply TL.yield 0; exact rfl; exact rfl; exact rfl; exact rfl; exact rfl; exact (by simp [hD]); exact round o (b8 (k % 128 + 128)) _ Δ' (by rw [hv, List.length_append]; have := varM_pos k; omega) hS)
    rintro _ _ ⟨rfl, Δ2, hS2, rfl⟩
    refine m_run ?_
    refine IH (k / 2 ^ 7) _ _ (by omega) ⟨k / 2 ^ 7, o ++ [b8 (k % 128 + 128)], Δ2, Nat.le_refl _, by omega, ?_, hS2, rfl, rfl, rfl⟩
    rw [hv, varM_ge hlt, List.append_assoc]; rfl
set_option maxRecDepth 100000 in
theorem putvar_t (A : Option Addr) (m c : Nat) (l : List UInt8) (n : Nat) (Γ : List HP) (hs : has Γ (srcAt 1 A m (bytesV l))) (hn : n < 18446744073709551616) (hl : l.length ≤ 1000000000) :
    FnV Try.prog 107 [.slice A m c, .int .u64 (n : Int)] Γ (RB 5 Γ (l ++ varM n)) := by
  refine Fn.enter Try.func107 rfl rfl rfl fun E => ?_
  have hv := varM_len n hn
  refine m_run ?_
  (apply TL.callV; exact rfl; exact callB_of (by kernel_rfl); exact rfl; exact fun _ h => h)
  exact clone_t A m c l _ hs (by omega)
  rintro _ _ ⟨A2, c2, rfl, hc2, rfl⟩
  refine m_run ?_
  (apply TL.alloc; exact rfl; exact tb rfl; (exact m_lst))
  intro b5
  refine m_run ?_
  (apply TL.callV; exact rfl; exact callB_of (by kernel_rfl); exact rfl; exact fun _ h => h)
  exact parts_t n _
  rintro _ _ ⟨pb, rfl, rfl⟩
  refine m_run ?_
  apply TK.rangeF (first := []) (cap := [.pointer (some ⟨pb, 0, none⟩)]) (RI := fun l' r' D _ Γ' => ∃ x A3 c3, (l ++ varM n).length ≤ c3 ∧ Γ' = loopA l' D .ready none :: row pb [x] 91 :: [dfA r', row b5 [.slice A3 (l ++ varM n).length c3] 22, bsA 5 (.slice A3 (l ++ varM n).length c3) (l ++ varM n)] ++ Γ)
  · exact rfl
  · exact rfl
  · exact callB_of (by kernel_rfl)
  · intro l' r' D hD
    refine Fn.mono (Fn.imp (parts1_t l' D (by rw [hD]; rfl) pb (fun pre Δ => ∃ A3 c3, (l ++ pre).length ≤ c3 ∧ Δ = [dfA r', row b5 [.slice A3 (l ++ pre).length c3] 22, bsA 5 (.slice A3 (l ++ pre).length c3) (l ++ pre)] ++ Γ) n hn ?_ _ ⟨A2, c2, ?_, rfl⟩) ?_) ?_
    · rintro pre ch x _ hpl ⟨A3, c3, hc3, rfl⟩
      refine Rnd.enterD hD Try.func107 rfl fun E2 => ?_
      refine m_run ?_
      (apply TK.begin 0; exact rfl; exact rfl; exact (rfl : _ = _ :: _))
      refine m_run ?_
      (apply TL.buildSlice; exact rfl; exact tb rfl; exact rfl; exact tb rfl; exact rfl; exact rfl; exact rfl; exact rfl; (exact m_lst))
      intro b
      refine m_run ?_
      (apply TL.appB (s := [ ch]) 5; exact rfl; exact rfl; exact tb rfl; exact rfl; exact tb rfl; exact rfl; exact rfl; exact rfl; exact rfl; exact fun _ h => h; exact rfl; exact has_src_row 0 rfl rfl)
      · simp; omega
      · exact fun _ => (rfl : _ = _ :: _ :: _ :: _ :: _ :: _ :: _)
      intro A4 c4 hc4
      refine m_run ?_
      refine TK.drop ?_
      (apply TK.roundEnd 0; exact rfl; exact rfl)
      refine ⟨true, rfl, rfl, _, ⟨A4, c4, ?_, ?_⟩, rfl⟩
      · rw [← List.append_assoc]; exact hc4
      · rw [← List.append_assoc]; rfl
    · simpa using hc2
    · intro m hm
      have h1 := all_perm (List.Perm.cons _ (List.Perm.swap _ _ _)) hm
      rw [List.append_nil]
      exact h1
    · rintro e Γ' ⟨v, rfl, x, _, ⟨A3, c3, hc3, rfl⟩, rfl⟩
      exact ⟨v, rfl, x, A3, c3, hc3, rfl⟩
  · rintro l' r' D v Γ' hD ⟨x, A3, c3, hc3, rfl⟩
    refine ⟨0, _, _, rfl, by simp, ?_⟩
    refine m_run ?_
    (apply TK.unmark 1; exact rfl; (rintro _ ⟨_, h, _⟩; cases h); exact rfl)
    (apply TK.retS1; exact rfl; exact rfl; (exact m_val))
    · exact ⟨_, rfl, _, _, rfl, hc3, rfl⟩
    · (repeat (first | exact List.Sublist.refl _ | apply List.Sublist.cons_cons | apply List.Sublist.cons))
end
section
/- TakeVar, both, walked (from O1, O4, O5). -/
attribute [local irreducible] TK TL TQ TA Fn PV
theorem place_t (A : Option Addr) (n c : Nat) (at_ : Int) (Γ : List HP) : FnV Try.prog 129 [.slice A n c, .int .i64 at_] Γ fun v Γ' => v = .bool (decide (0 ≤ at_ ∧ at_ ≤ n)) ∧ Γ' = Γ := by
  refine Fn.enter Try.func129 rfl rfl rfl fun E => ?_
  by_cases h1 : 0 ≤ at_
  · by_cases h2 : at_ ≤ n
    · refine m_run ?_
      (apply TK.ret1; exact rfl; exact rfl; (exact m_val))
      exact ⟨_, rfl, by simp [h1, h2], rfl⟩
    · refine m_run ?_
      (apply TK.ret1; exact rfl; exact rfl; (exact m_val))
      exact ⟨_, rfl, by simp [h1, h2], rfl⟩
  · refine m_run ?_
    (apply TK.ret1; exact rfl; exact rfl; (exact m_val))
    exact ⟨_, rfl, by simp [h1], rfl⟩
theorem mul64_t (x y : Nat) (Γ : List HP) (hx : x < 4294967296) (hy : y < 18446744073709551616) : FnV Try.prog 142 [.int .u64 (x : Int), .int .u64 (y : Int)] Γ fun v Γ' => v = .tuple #[.int .u64 ((x * y / 2 ^ 64 : Nat) : Int), .int .u64 ((x * y % 2 ^ 64 : Nat) : Int)] ∧ Γ' = Γ := by
  refine Fn.enter Try.func142 rfl rfl rfl fun E => ?_
  have hx0 : x % 2 ^ 32 = x := Nat.mod_eq_of_lt (by omega)
  have hx1 : x / 2 ^ 32 = 0 := Nat.div_eq_of_lt (by omega)
  obtain ⟨y0, hy0⟩ : ∃ y0, y % 2 ^ 32 = y0 := ⟨_, rfl⟩
  obtain ⟨y1, hy1⟩ : ∃ y1, y / 2 ^ 32 = y1 := ⟨_, rfl⟩
  have hyy : y = y1 * 2 ^ 32 + y0 := by omega
  have h0 : y0 < 4294967296 := by omega
  have h1 : y1 < 4294967296 := by omega
  have hp0 : x * y0 ≤ 4294967295 * 4294967295 := Nat.mul_le_mul (by omega) (by omega)
  have hp1 : x * y1 ≤ 4294967295 * 4294967295 := Nat.mul_le_mul (by omega) (by omega)
  refine m_run ?_
  (apply TK.ret2; exact rfl; exact rfl; (exact m_val); (exact m_val))
  refine ⟨_, rfl, ?_, rfl⟩
  have hn : (2 ^ IntKind.u64.bits : Int).natAbs = 18446744073709551616 := by decide
  have hlo : IntKind.u64.wrap ((x : Int) * (y : Int)) = ((x * y % 2 ^ 64 : Nat) : Int) := by rw [← Int.natCast_mul, wrap_nat rfl]; rfl
  rw [hlo, hn, hx0, hx1, hy0, hy1]
  simp only [Nat.zero_mul, Nat.zero_mod, Nat.zero_add]
  have e1 : x * y0 % 18446744073709551616 = x * y0 := Nat.mod_eq_of_lt (by omega)
  have e2 : x * y1 % 18446744073709551616 = x * y1 := Nat.mod_eq_of_lt (by omega)
  have e3 : x * y = x * y1 * 4294967296 + x * y0 := by rw [hyy, Nat.mul_add, Nat.mul_assoc]
  rw [e1, e2]
  generalize hA : x * y0 = a at *
  generalize hB : x * y1 = b at *
  have e4 : IntKind.u64.wrap (((0 : Nat) : Int) * ((y1 : Nat) : Int)) = ((0 : Nat) : Int) := by rw [← Int.natCast_mul, Nat.zero_mul]; exact u64_nat (by decide)
  rw [e4]
  have e5 : a / 2 ^ 32 % 18446744073709551616 / 2 ^ 32 = 0 := by omega
  have e6 : a / 2 ^ 32 % 18446744073709551616 % 2 ^ 32 = a / 2 ^ 32 := by omega
  rw [e5, e6, ← Int.natCast_add, Nat.zero_add, u64_nat (by decide), ← Int.natCast_add, Nat.zero_add, u64_nat (by omega), e3]
  congr 4
  omega
/-- What is taken at a place: the number, the place behind, the error. -/
def takeV (l : List UInt8) (at_ : Int) : Nat × Nat × Nat :=
  if 0 ≤ at_ ∧ at_ ≤ l.length then (match scanP (l.drop at_.toNat) 0 0 with | some (v, j) => (v, at_.toNat + j, 0) | none => (0, 0, 5)) else (0, 0, 1)
def tkV (x : Nat × Nat × Nat) : Value := .tuple #[.int .u64 (x.1 : Int), .int .i64 (x.2.1 : Int), .int .i64 (x.2.2 : Int)]
theorem takeV_ok {l : List UInt8} {k v j : Nat} (hk : k ≤ l.length) (h : scanP (l.drop k) 0 0 = some (v, j)) : takeV l k = (v, k + j, 0) := by
  unfold takeV
  rw [if_pos ⟨by omega, by omega⟩, Int.toNat_natCast, h]
theorem takeV_none {l : List UInt8} {k : Nat} (hk : k ≤ l.length) (h : scanP (l.drop k) 0 0 = none) : takeV l k = (0, 0, 5) := by
  unfold takeV
  rw [if_pos ⟨by omega, by omega⟩, Int.toNat_natCast, h]
theorem scanP_stop {c : UInt8} {cs : List UInt8} {k n : Nat} (h : 63 < 7 * k ∨ 2 ^ 64 ≤ c.toNat % 128 * 2 ^ (7 * k) ∨ (c.toNat = 0 ∧ 0 < k)) : scanP (c :: cs) k n = none := by rw [scanP, if_pos h]
theorem scanP_last {c : UInt8} {cs : List UInt8} {k n : Nat} (h : ¬ (63 < 7 * k ∨ 2 ^ 64 ≤ c.toNat % 128 * 2 ^ (7 * k) ∨ (c.toNat = 0 ∧ 0 < k))) (hc : c.toNat < 128) : scanP (c :: cs) k n = some (n + c.toNat % 128 * 2 ^ (7 * k), k + 1) := by rw [scanP, if_neg h, if_pos hc]
theorem scanP_on {c : UInt8} {cs : List UInt8} {k n : Nat} (h : ¬ (63 < 7 * k ∨ 2 ^ 64 ≤ c.toNat % 128 * 2 ^ (7 * k) ∨ (c.toNat = 0 ∧ 0 < k))) (hc : ¬ c.toNat < 128) : scanP (c :: cs) k n = scanP cs (k + 1) (n + c.toNat % 128 * 2 ^ (7 * k)) := by rw [scanP, if_neg h, if_neg hc]
set_option maxRecDepth 100000 in
theorem takevar_t (A : Option Addr) (m c : Nat) (l : List UInt8) (at_ : Int) (Γ : List HP) (hs : has Γ (srcAt 1 A m (bytesV l))) (hmc : m ≤ c) (hl : l.length ≤ 1000000000) :
    FnV Try.prog 127 [.slice A m c, .int .i64 at_] Γ fun v Γ' => v = tkV (takeV l at_) ∧ Γ' = Γ := by
  refine Fn.enter Try.func127 rfl rfl rfl fun E => ?_
  refine TK.mem fun m0 hm0 => ?_
  obtain rfl := src_lenB (hs m0 hm0)
  by_cases hat : 0 ≤ at_ ∧ at_ ≤ l.length
  · obtain ⟨k, rfl⟩ : ∃ k : Nat, at_ = (k : Int) := ⟨at_.toNat, by omega⟩
    have hk : k ≤ l.length := by omega
    refine m_run ?_
    (apply TL.callV; exact rfl; exact callB_of (by kernel_rfl); exact rfl; exact fun _ h => h)
    exact place_t A l.length c (k : Int) _
    rintro _ Γ ⟨rfl, rfl⟩
    refine m_run ?_
    (apply TL.sliceS (i := k) (j := l.length); exact rfl; exact rfl; exact tb rfl; exact rfl; exact tb rfl; exact .some rfl; exact .none; (exact m_hsrc); exact hk; exact Nat.le_refl _; exact hmc)
    intro A' hs2
    have hs3 := has_part (l := l) (i := k) hs2 (by omega)
    rw [List.take_of_length_le (by simp)] at hs3
    obtain ⟨cs, hcs⟩ : ∃ cs, l.drop k = cs := ⟨_, rfl⟩
    have hcl : l.length - k = cs.length := by rw [← hcs]; simp
    rw [hcs, hcl] at hs3
    rw [hcl]
    refine m_run ?_
    apply TK.iter (fun j ρ' Γ' => ∃ (i n : Nat), i + j = cs.length ∧ 7 * i ≤ 70 ∧ n < 2 ^ (7 * i) ∧ scanP cs 0 0 = scanP (cs.drop i) i n ∧ lk ρ' 0 = .slice A l.length c ∧ lk ρ' 1 = .int .i64 (k : Int) ∧ lk ρ' 4 = .int .u64 (n : Int) ∧ lk ρ' 7 = .int .i64 ((7 * i : Nat) : Int) ∧ lk ρ' 18 = .slice A' cs.length (c - k) ∧ lk ρ' 19 = .int .i64 (cs.length : Int) ∧ lk ρ' 20 = .int .i64 (i : Int) ∧ Γ' = Γ) cs.length
    · exact ⟨0, 0, by omega, by omega, by decide, rfl, rfl, rfl, rfl, rfl, rfl, rfl, rfl, rfl⟩
    rintro j IH ρ' Γ ⟨i, n, hij, hi7, hn, hsc, e0, e1, e4, e7, e18, e19, e20, rfl⟩
    refine TK.know7 e0 e1 e4 e7 e18 e19 e20 ?_
    by_cases hi : i < cs.length
    · obtain ⟨ch, hch⟩ : ∃ ch, cs[i]? = some ch := ⟨cs[i], by simp [hi]⟩
      have hcons : cs.drop i = ch :: cs.drop (i + 1) := by
        have := (List.getElem?_eq_some_iff.1 hch).2
        rw [← this]; exact List.drop_eq_getElem_cons hi
      rw [hcons] at hsc
      refine TK.mem fun m1 hm1 => ?_
      obtain ⟨b, o, rfl⟩ := src_some (hs3 m1 hm1) (by rw [bytesV_length]; omega)
      have hcell := has_byte hs3 hch
      have hc8 := ch.toNat_lt
      obtain ⟨s, hs0⟩ : ∃ s, min (7 * i) 63 = s := ⟨_, rfl⟩
      obtain ⟨P, hP⟩ : ∃ P, ch.toNat % 128 * 2 ^ s = P := ⟨_, rfl⟩
      obtain ⟨hi_, hhi⟩ : ∃ h, P / 2 ^ 64 = h := ⟨_, rfl⟩
      obtain ⟨lo_, hlo⟩ : ∃ h, P % 2 ^ 64 = h := ⟨_, rfl⟩
      have hps : (2 : Nat) ^ s < 18446744073709551616 := Nat.lt_of_le_of_lt (Nat.pow_le_pow_right (by decide) (show s ≤ 63 by omega)) (by decide)
      have hcall := mul64_t (ch.toNat % 128) (2 ^ s) Γ (by omega) hps
      rw [hP, hhi, hlo] at hcall
      refine m_run ?_
      refine TL.know (t := 30) (v := .int .i64 (s : Int)) (congrArg (Value.int .i64) (by split <;> omega)) ?_
      refine TL.know (t := 28) (v := .int .u64 ((ch.toNat % 128 : Nat) : Int)) (congrArg (Value.int .u64) (u64_nat (by omega))) ?_
      (apply TL.pv; exact rfl; (apply PV.shlN (n := 1) (m := s); exact rfl; exact rfl; exact rfl; exact (show s ≤ 64 by omega); exact rfl))
      refine TL.know (t := 31) (v := .int .u64 ((2 ^ s : Nat) : Int)) (congrArg (Value.int .u64) (congrArg Nat.cast (by rw [Nat.one_mul]; exact Nat.mod_eq_of_lt hps))) ?_
      (apply TL.callV; exact rfl; exact callB_of (by kernel_rfl); exact rfl; exact fun _ h => h)
      exact hcall
      rintro _ Γ ⟨rfl, rfl⟩
      have key : 63 < 7 * i ∨ s = 7 * i := by omega
      by_cases hbad : 63 < 7 * i ∨ 2 ^ 64 ≤ ch.toNat % 128 * 2 ^ (7 * i) ∨ (ch.toNat = 0 ∧ 0 < i)
      · rw [scanP_stop hbad] at hsc
        by_cases h63 : 63 < 7 * i
        · refine m_run ?_
          (apply TK.ret3; exact rfl; exact rfl; (exact m_val); (exact m_val); (exact m_val))
          refine ⟨_, rfl, ?_, rfl⟩
          rw [takeV_none hk (by rw [hcs, hsc])]; rfl
        · have hs7 : s = 7 * i := by omega
          subst hs7
          by_cases hh : 0 < hi_
          · refine m_run ?_
            (apply TK.ret3; exact rfl; exact rfl; (exact m_val); (exact m_val); (exact m_val))
            refine ⟨_, rfl, ?_, rfl⟩
            rw [takeV_none hk (by rw [hcs, hsc])]; rfl
          · have h0 : ch.toNat = 0 ∧ 0 < i := by
              rcases hbad with h | h | h
              · exact (h63 h).elim
              · omega
              · exact h
            obtain ⟨h01, h02⟩ := h0
            refine m_run ?_
            (apply TK.ret3; exact rfl; exact rfl; (exact m_val); (exact m_val); (exact m_val))
            refine ⟨_, rfl, ?_, rfl⟩
            rw [takeV_none hk (by rw [hcs, hsc])]; rfl
      · have h63 : ¬ 63 < 7 * i := fun h => hbad (.inl h)
        have h64 : ¬ 2 ^ 64 ≤ ch.toNat % 128 * 2 ^ (7 * i) := fun h => hbad (.inr (.inl h))
        have hz : ¬ (ch.toNat = 0 ∧ 0 < i) := fun h => hbad (.inr (.inr h))
        have hs7 : s = 7 * i := by omega
        subst hs7
        have hhi0 : hi_ = 0 := by omega
        have hlo0 : lo_ = ch.toNat % 128 * 2 ^ (7 * i) := by omega
        have hsum : n + lo_ < 2 ^ (7 * (i + 1)) := by
          have h5 : ch.toNat % 128 < 128 := Nat.mod_lt _ (by decide)
          rw [hlo0, pow_step]
          calc n + ch.toNat % 128 * 2 ^ (7 * i) < 2 ^ (7 * i) + ch.toNat % 128 * 2 ^ (7 * i) := by omega
            _ = (ch.toNat % 128 + 1) * 2 ^ (7 * i) := by rw [Nat.add_mul, Nat.one_mul, Nat.add_comm]
            _ ≤ 128 * 2 ^ (7 * i) := Nat.mul_le_mul_right _ h5
        have hsum2 : n + lo_ < 18446744073709551616 := by
          have hp := pow7_le h63
          have h4 : ch.toNat % 128 < 2 ^ (64 - 7 * i) := by
            apply Nat.lt_of_mul_lt_mul_right (a := 2 ^ (7 * i))
            rw [Nat.mul_comm (2 ^ (64 - 7 * i)), hp]; omega
          have h6 : (ch.toNat % 128 + 1) * 2 ^ (7 * i) ≤ 2 ^ (64 - 7 * i) * 2 ^ (7 * i) := Nat.mul_le_mul_right _ h4
          rw [Nat.mul_comm (2 ^ (64 - 7 * i)), hp, Nat.add_mul, Nat.one_mul] at h6
          omega
        by_cases hlast : ch.toNat < 128
        · rw [scanP_last hbad hlast, ← hlo0] at hsc
          have e1 : IntKind.u64.wrap ((n : Int) + (lo_ : Int)) = ((n + lo_ : Nat) : Int) := by rw [← Int.natCast_add, u64_nat hsum2]
          have e2 : IntKind.i64.wrap ((k : Int) + (i : Int)) = ((k + i : Nat) : Int) := by rw [← Int.natCast_add, i64_nat (by omega)]
          have e3 : IntKind.i64.wrap (IntKind.i64.wrap ((k : Int) + (i : Int)) + 1) = ((k + (i + 1) : Nat) : Int) := by rw [e2, i64_in (by omega) (by omega)]; omega
          have fin : Value.tuple #[.int .u64 (IntKind.u64.wrap ((n : Int) + (lo_ : Int))), .int .i64 (IntKind.i64.wrap (IntKind.i64.wrap ((k : Int) + (i : Int)) + 1)), .int .i64 0] = tkV (takeV l k) := by
            rw [takeV_ok hk (by rw [hcs, hsc]), e1, e3]; rfl
          by_cases hc0 : ch.toNat = 0
          · have hi0 : i = 0 := by omega
            refine m_run ?_
            (apply TK.ret3; exact rfl; exact rfl; (exact m_val); (exact m_val); (exact m_val))
            exact ⟨_, rfl, fin, rfl⟩
          · refine m_run ?_
            (apply TK.ret3; exact rfl; exact rfl; (exact m_val); (exact m_val); (exact m_val))
            exact ⟨_, rfl, fin, rfl⟩
        · rw [scanP_on hbad hlast, ← hlo0] at hsc
          refine m_run ?_
          refine IH (j - 1) _ _ (by omega) ⟨i + 1, n + lo_, by omega, by omega, hsum, hsc, rfl, rfl, ?_, ?_, rfl, rfl, congrArg (Value.int .i64) (i64_succ i (by omega)), rfl⟩
          · exact congrArg (Value.int .u64) (by rw [← Int.natCast_add, u64_nat hsum2])
          · exact congrArg (Value.int .i64) (by rw [i64_in (by omega) (by omega)]; omega)
    · obtain rfl : i = cs.length := by omega
      rw [List.drop_length] at hsc
      refine m_run ?_
      (apply TK.ret3; exact rfl; exact rfl; (exact m_val); (exact m_val); (exact m_val))
      refine ⟨_, rfl, ?_, rfl⟩
      rw [takeV_none hk (by rw [hcs, hsc]; rfl)]; rfl
  · refine m_run ?_
    (apply TL.callV; exact rfl; exact callB_of (by kernel_rfl); exact rfl; exact fun _ h => h)
    exact place_t A l.length c at_ _
    rintro _ _ ⟨rfl, rfl⟩
    refine m_run ?_
    (apply TK.ret3; exact rfl; exact rfl; (exact m_val); (exact m_val); (exact m_val))
    refine ⟨_, rfl, ?_, rfl⟩
    unfold takeV
    rw [if_neg hat]; rfl
theorem takeV_ref {l : List UInt8} {k : Nat} (hk : k ≤ l.length) : takeV l k = match refTake (l.drop k) with | some (v, j) => (v, k + j, 0) | none => (0, 0, 5) := by
  unfold takeV
  rw [if_pos ⟨by omega, by omega⟩, Int.toNat_natCast, take_same]
  all_goals (cases scanP (l.drop k) 0 0 <;> rfl)
set_option maxRecDepth 100000 in
theorem reftakevar_t (A : Option Addr) (m c : Nat) (l : List UInt8) (at_ : Int) (Γ : List HP) (hs : has Γ (srcAt 1 A m (bytesV l))) (hmc : m ≤ c) (hl : l.length ≤ 1000000000) :
    FnV Try.prog 111 [.slice A m c, .int .i64 at_] Γ fun v Γ' => v = tkV (takeV l at_) ∧ Γ' = Γ := by
  refine Fn.enter Try.func111 rfl rfl rfl fun E => ?_
  refine TK.mem fun m0 hm0 => ?_
  obtain rfl := src_lenB (hs m0 hm0)
  by_cases hat : 0 ≤ at_ ∧ at_ ≤ l.length
  · obtain ⟨k, rfl⟩ : ∃ k : Nat, at_ = (k : Int) := ⟨at_.toNat, by omega⟩
    have hk : k ≤ l.length := by omega
    obtain ⟨cs, hcs⟩ : ∃ cs, l.drop k = cs := ⟨_, rfl⟩
    have hcl : l.length - k = cs.length := by rw [← hcs]; simp
    have hr := takeV_ref hk
    rw [hcs] at hr
    refine m_run ?_
    apply TK.iter (fun j ρ' Γ' => ∃ (i n : Nat), i + j = 10 ∧ i ≤ cs.length ∧ n < 18446744073709551616 ∧ scanR cs 0 0 = scanR (cs.drop i) i n ∧ lk ρ' 0 = .slice A l.length c ∧ lk ρ' 1 = .int .i64 (k : Int) ∧ lk ρ' 7 = .int .u64 (n : Int) ∧ lk ρ' 8 = .int .i64 (i : Int) ∧ Γ' = Γ) 10
    · exact ⟨0, 0, by omega, by omega, by decide, rfl, rfl, rfl, rfl, rfl, rfl⟩
    rintro j IH ρ' Γ ⟨i, n, hij, hi7, hn, hsc, e0, e1, e7, e8, rfl⟩
    refine TK.know4 e0 e1 e7 e8 ?_
    have eki : IntKind.i64.wrap ((k : Int) + (i : Int)) = ((k + i : Nat) : Int) := by rw [← Int.natCast_add, i64_nat (by omega)]
    by_cases hi : i < cs.length ∧ i < 10
    · obtain ⟨hi, hi10⟩ := hi
      obtain ⟨ch, hch⟩ : ∃ ch, cs[i]? = some ch := ⟨cs[i], by simp [hi]⟩
      have hcons : cs.drop i = ch :: cs.drop (i + 1) := by
        have := (List.getElem?_eq_some_iff.1 hch).2
        rw [← this]; exact List.drop_eq_getElem_cons hi
      have hchl : l[k + i]? = some ch := by rw [← hch, ← hcs, List.getElem?_drop]
      rw [hcons] at hsc
      refine TK.mem fun m1 hm1 => ?_
      obtain ⟨b, o, rfl⟩ := src_some (hs m1 hm1) (by rw [bytesV_length]; omega)
      have hcell := has_byte hs hchl
      have hc8 := ch.toNat_lt
      have hps : (2 : Nat) ^ (7 * i) < 18446744073709551616 := Nat.lt_of_le_of_lt (Nat.pow_le_pow_right (by decide) (show 7 * i ≤ 63 by omega)) (by decide)
      obtain ⟨P, hP⟩ : ∃ P, ch.toNat % 128 * 2 ^ (7 * i) % 2 ^ 64 = P := ⟨_, rfl⟩
      have hPl : P < 18446744073709551616 := by omega
      have hor : n ||| P < 18446744073709551616 := Nat.or_lt_two_pow (n := 64) hn hPl
      refine m_run ?_
      refine TL.know (t := 34) (v := .pointer (some ⟨b, o + (k + i), none⟩)) (by rw [← Int.toNat_natCast (k + i), ← eki]; rfl) ?_
      refine m_run ?_
      refine TL.know (t := 37) (v := .int .u64 ((ch.toNat % 128 : Nat) : Int)) (congrArg (Value.int .u64) (u64_nat (by omega))) ?_
      refine TL.know (t := 40) (v := .int .u64 ((7 * i : Nat) : Int)) (congrArg (Value.int .u64) (by rw [i64_in (by omega) (by omega), u64_in (by omega) (by omega)]; omega)) ?_
      (apply TL.pv; exact rfl; (apply PV.shlN (n := ch.toNat % 128) (m := 7 * i); exact rfl; exact rfl; exact rfl; exact (show 7 * i ≤ 64 by omega); exact rfl))
      refine TL.know (t := 41) (v := .int .u64 (P : Int)) (congrArg (Value.int .u64) (congrArg Nat.cast hP)) ?_
      (apply TL.pv; exact rfl; (apply PV.bits; exact rfl; exact rfl; exact rfl))
      refine TL.know (t := 42) (v := .int .u64 ((n ||| P : Nat) : Int)) (congrArg (Value.int .u64) (bits_or rfl hn hPl)) ?_
      by_cases hlast : ch.toNat < 128
      · have hsc2 : scanR cs 0 0 = some (n ||| P, i + 1) := by rw [hsc, scanR, if_neg (by omega), if_pos hlast, hP]
        refine m_run ?_
        refine TL.know (t := 47) (v := .pointer (some ⟨b, o + (k + i), none⟩)) (by rw [← Int.toNat_natCast (k + i), ← eki]; rfl) ?_
        refine m_run ?_
        refine TK.drawS mixed rfl ?_
        refine m_take (At.mk : At 0) ?_; refine m_take (At.mk : At 3) ?_; refine m_take (At.mk : At 4) ?_; refine m_take (At.mk : At 5) ?_; refine m_take (At.mk : At 6) ?_; refine m_take (At.mk : At 7) ?_; refine m_take (At.mk : At 8) ?_
        refine TA.know (t := 58) (v := .int .i64 ((k + (i + 1) : Nat) : Int)) (congrArg (Value.int .i64) (by rw [eki, i64_in (by omega) (by omega)]; omega)) ?_
        (apply TA.takeA (At.mk : At 9); exact rfl; exact rfl; kernel_rfl; (focus ((repeat (first | assumption | exact Ent.refl _ | apply Ent.tail)); done)); (apply PV.sliceS (i := k) (j := k + (i + 1)); exact rfl; exact tb rfl; exact rfl; exact tb rfl; exact .some rfl; exact .some rfl; omega; omega))
        have hs4 := has_imp hs fun m hm => src_part (i := k) (j := k + (i + 1)) (c := c) hm (by omega) (by omega) (by omega)
        have hs5 := has_part (l := l) (i := k) hs4 (by omega)
        rw [hcs, show k + (i + 1) - k = i + 1 by omega] at hs5
        refine TA.know (t := 59) (v := .slice (if c = k then some ⟨b, o, none⟩ else (some (⟨b, o, none⟩ : Addr)).map fun a => a.add (k * 1)) (i + 1) (c - k)) (congrArg (fun z => Value.slice (if c = k then some ⟨b, o, none⟩ else (some (⟨b, o, none⟩ : Addr)).map fun a => a.add (k * 1)) z (c - k)) (show k + (i + 1) - k = i + 1 by omega)) ?_
        (apply TA.takeA (At.mk : At 10); exact rfl; exact rfl; kernel_rfl; (focus ((repeat (first | assumption | exact Ent.refl _ | apply Ent.tail)); done)); (apply PV.convBS; exact rfl; exact tb rfl; exact rfl; exact tb rfl; exact rfl; exact tb rfl; exact rfl; exact hs5))
        (apply TA.one 1; kernel_rfl; exact rfl)
        (apply TL.callV; exact rfl; exact callB_of (by kernel_rfl); exact rfl; exact fun _ h => h)
        exact var_t (n ||| P) _ hor
        rintro _ _ ⟨A2, c2, rfl, hc2, rfl⟩
        refine TL.back (by (focus ((repeat (first | assumption | exact Ent.refl _ | apply Ent.tail)); done))) ?_
        (apply TA.one 2; kernel_rfl; exact rfl)
        refine m_run ?_
        refine TL.back (by (focus ((repeat (first | assumption | exact Ent.refl _ | apply Ent.tail)); done))) ?_
        refine m_take (At.mk : At 11) ?_
        refine TA.done (by kernel_rfl) ?_
        by_cases hv : varM (n ||| P) = cs.take (i + 1)
        · have hr2 : takeV l k = (n ||| P, k + (i + 1), 0) := by rw [hr, refTake, hsc2]; simp only [if_pos hv]
          refine m_run ?_
          (apply TK.retS3; exact rfl; exact rfl; (exact m_val); (exact m_val); (exact m_val))
          · refine ⟨_, rfl, ?_, rfl⟩
            rw [hr2, show IntKind.i64.wrap (IntKind.i64.wrap ((k : Int) + (i : Int)) + 1) = ((k + (i + 1) : Nat) : Int) by rw [eki, i64_in (by omega) (by omega)]; omega]
            rfl
          · (repeat (first | exact List.Sublist.refl _ | apply List.Sublist.cons_cons | apply List.Sublist.cons))
        · have hr2 : takeV l k = (0, 0, 5) := by rw [hr, refTake, hsc2]; simp only [if_neg hv]
          refine m_run ?_
          (apply TK.retS3; exact rfl; exact rfl; (exact m_val); (exact m_val); (exact m_val))
          · exact ⟨_, rfl, by rw [hr2]; rfl, rfl⟩
          · (repeat (first | exact List.Sublist.refl _ | apply List.Sublist.cons_cons | apply List.Sublist.cons))
      · have hsc2 : scanR cs 0 0 = scanR (cs.drop (i + 1)) (i + 1) (n ||| P) := by rw [hsc, scanR, if_neg (by omega), if_neg hlast, hP]
        refine m_run ?_
        refine TL.know (t := 47) (v := .pointer (some ⟨b, o + (k + i), none⟩)) (by rw [← Int.toNat_natCast (k + i), ← eki]; rfl) ?_
        refine m_run ?_
        exact IH (j - 1) _ _ (by omega) ⟨i + 1, n ||| P, by omega, by omega, hor, hsc2, rfl, rfl, rfl, congrArg (Value.int .i64) (i64_succ i (by omega)), rfl⟩
    · have hsn : scanR cs 0 0 = none := by
        rw [hsc]
        cases hd : cs.drop i with
        | nil => rfl
        | cons x xs =>
          have h1 : i < cs.length := by
            rcases Nat.lt_or_ge i cs.length with h | h
            · exact h
            · rw [List.drop_of_length_le h] at hd; cases hd
          rw [scanR, if_pos (by omega)]
      have hr2 : takeV l k = (0, 0, 5) := by rw [hr, refTake, hsn]
      by_cases h10 : i < 10
      · refine m_run ?_
        (apply TK.ret3; exact rfl; exact rfl; (exact m_val); (exact m_val); (exact m_val))
        exact ⟨_, rfl, by rw [hr2]; rfl, rfl⟩
      · refine m_run ?_
        (apply TK.ret3; exact rfl; exact rfl; (exact m_val); (exact m_val); (exact m_val))
        exact ⟨_, rfl, by rw [hr2]; rfl, rfl⟩
  · have hr2 : takeV l at_ = (0, 0, 1) := by unfold takeV; rw [if_neg hat]
    by_cases h0 : at_ < 0
    · refine m_run ?_
      (apply TK.ret3; exact rfl; exact rfl; (exact m_val); (exact m_val); (exact m_val))
      exact ⟨_, rfl, by rw [hr2]; rfl, rfl⟩
    · refine m_run ?_
      (apply TK.ret3; exact rfl; exact rfl; (exact m_val); (exact m_val); (exact m_val))
      exact ⟨_, rfl, by rw [hr2]; rfl, rfl⟩
end
end Go.Proofs.Ytokggdgagfmacaa.E
