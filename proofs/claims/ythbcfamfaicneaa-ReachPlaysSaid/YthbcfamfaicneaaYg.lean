/- Predicates as said of a depth: the program's Pred, and the document's. -/
import Derived.Test.YthbcfamfaicneaaYf
namespace Go.Proofs.Ythbcfamfaicneaa.E
open Go Go.RowKit Go.Proofs
attribute [local irreducible] TK TL TQ TA TB Fn PV
theorem or_pred (p n : Nat) (h : n ≤ 6) (hp : p < 16777216) : (p * 2 ^ 6 % 2 ^ 32) ||| (n * 2 ^ 3 % 2 ^ 32) = 64 * p + 8 * n := by
  rw [Nat.mod_eq_of_lt (by omega), Nat.mod_eq_of_lt (by omega), ← Nat.shiftLeft_eq p 6, ← Nat.shiftLeft_add_eq_or_of_lt (by omega), Nat.shiftLeft_eq]
  omega
set_option maxRecDepth 100000 in
set_option maxHeartbeats 4000000 in
theorem pred_t (p : Nat) (args : Int) (said : Bool) (depth : Int) (Γ : List HP) : FnV Try.prog 26 [.int .u32 (p : Int), .int .i64 args, .bool said, .int .i64 depth] Γ fun v Γ' => v = .tuple #[.int .u32 ((predS p args said depth).1 : Int), .bool (predS p args said depth).2] ∧ Γ' = Γ := by
  refine Fn.enter Try.func26 rfl rfl rfl fun E => ?_
  by_cases h1 : 16777216 ≤ p
  · have hS : predS p args said depth = (0, false) := if_pos (.inl h1)
    rw [hS]
    refine m_run ?_
    (apply TK.ret2; exact rfl; exact rfl; (exact m_val); (exact m_val))
    exact ⟨_, rfl, rfl, rfl⟩
  by_cases h2 : args < 0
  · have hS : predS p args said depth = (0, false) := if_pos (.inr (.inl h2))
    rw [hS]
    refine m_run ?_
    (apply TK.ret2; exact rfl; exact rfl; (exact m_val); (exact m_val))
    exact ⟨_, rfl, rfl, rfl⟩
  by_cases h3 : 6 < args
  · have hS : predS p args said depth = (0, false) := if_pos (.inr (.inr h3))
    rw [hS]
    refine m_run ?_
    (apply TK.ret2; exact rfl; exact rfl; (exact m_val); (exact m_val))
    exact ⟨_, rfl, rfl, rfl⟩
  have hS : predS p args said depth = if said = false then (64 * p + 8 * args.toNat, true) else if depth < 0 ∨ 3 < depth then (0, false) else (64 * p + 8 * args.toNat + 1 + depth.toNat, true) := if_neg (by omega)
  rw [hS]
  obtain ⟨n, rfl⟩ := Int.eq_ofNat_of_zero_le (show 0 ≤ args by omega)
  have hw : IntKind.u32.wrap (n : Int) = (n : Int) := u32_nat (by omega)
  refine m_run ?_
  rw [hw]
  refine m_run ?_
  have ho : bitsOf .or .u32 ((p * 2 ^ 6 % 2 ^ IntKind.u32.bits : Nat) : Int) ((n % (2 ^ IntKind.u32.bits : Int).natAbs * 2 ^ 3 % 2 ^ IntKind.u32.bits : Nat) : Int) = ((64 * p + 8 * n : Nat) : Int) := by
    rw [Nat.mod_eq_of_lt (Nat.lt_of_lt_of_le (by omega : n < 7) (by decide : 7 ≤ (2 ^ IntKind.u32.bits : Int).natAbs))]
    rw [bits_or rfl (Nat.mod_lt _ (by decide)) (Nat.mod_lt _ (by decide))]
    exact congrArg _ (or_pred p n (by omega) (by omega))
  rw [Int.toNat_natCast]
  cases said with
  | false =>
    refine m_run ?_
    (apply TK.ret2; exact rfl; exact rfl; (exact m_val); (exact m_val))
    exact ⟨_, rfl, by rw [if_pos rfl]; exact congrArg (fun z => Value.tuple #[.int .u32 z, .bool true]) ho, rfl⟩
  | true =>
  rw [if_neg (by decide)]
  by_cases h4 : depth < 0
  · rw [if_pos (.inl h4)]
    refine m_run ?_
    (apply TK.ret2; exact rfl; exact rfl; (exact m_val); (exact m_val))
    exact ⟨_, rfl, rfl, rfl⟩
  by_cases h5 : 3 < depth
  · rw [if_pos (.inr h5)]
    refine m_run ?_
    (apply TK.ret2; exact rfl; exact rfl; (exact m_val); (exact m_val))
    exact ⟨_, rfl, rfl, rfl⟩
  rw [if_neg (by omega)]
  obtain ⟨k, rfl⟩ := Int.eq_ofNat_of_zero_le (show 0 ≤ depth by omega)
  have hw2 : IntKind.u32.wrap (k : Int) = (k : Int) := u32_nat (by omega)
  refine m_run ?_
  rw [hw2]
  refine m_run ?_
  (apply TK.ret2; exact rfl; exact rfl; (exact m_val); (exact m_val))
  refine ⟨_, rfl, ?_, rfl⟩
  rw [Int.toNat_natCast]
  refine congrArg (fun z => Value.tuple #[.int .u32 z, .bool true]) ?_
  rw [ho, show ((64 * p + 8 * n : Nat) : Int) + (k : Int) = ((64 * p + 8 * n + k : Nat) : Int) by omega, u32_nat (by omega), show ((64 * p + 8 * n + k : Nat) : Int) + 1 = ((64 * p + 8 * n + 1 + k : Nat) : Int) by omega, u32_nat (by omega)]
set_option maxRecDepth 100000 in
set_option maxHeartbeats 4000000 in
theorem rpred_t (p : Nat) (args : Int) (said : Bool) (depth : Int) (Γ : List HP) : FnV Try.prog 13 [.int .u32 (p : Int), .int .i64 args, .bool said, .int .i64 depth] Γ fun v Γ' => v = .tuple #[.int .u32 ((predS p args said depth).1 : Int), .bool (predS p args said depth).2] ∧ Γ' = Γ := by
  refine Fn.enter Try.func13 rfl rfl rfl fun E => ?_
  by_cases h1 : 16777216 ≤ p
  · have hS : predS p args said depth = (0, false) := if_pos (.inl h1)
    rw [hS]
    refine m_run ?_
    (apply TK.ret2; exact rfl; exact rfl; (exact m_val); (exact m_val))
    exact ⟨_, rfl, rfl, rfl⟩
  by_cases h2 : args < 0
  · have hS : predS p args said depth = (0, false) := if_pos (.inr (.inl h2))
    rw [hS]
    refine m_run ?_
    (apply TK.ret2; exact rfl; exact rfl; (exact m_val); (exact m_val))
    exact ⟨_, rfl, rfl, rfl⟩
  by_cases h3 : 6 < args
  · have hS : predS p args said depth = (0, false) := if_pos (.inr (.inr h3))
    rw [hS]
    refine m_run ?_
    (apply TK.ret2; exact rfl; exact rfl; (exact m_val); (exact m_val))
    exact ⟨_, rfl, rfl, rfl⟩
  have hS : predS p args said depth = if said = false then (64 * p + 8 * args.toNat, true) else if depth < 0 ∨ 3 < depth then (0, false) else (64 * p + 8 * args.toNat + 1 + depth.toNat, true) := if_neg (by omega)
  rw [hS]
  obtain ⟨n, rfl⟩ := Int.eq_ofNat_of_zero_le (show 0 ≤ args by omega)
  have hw : IntKind.u32.wrap (n : Int) = (n : Int) := u32_nat (by omega)
  refine m_run ?_
  rw [hw]
  have ho : IntKind.u32.wrap (IntKind.u32.wrap (64 * (p : Int)) + IntKind.u32.wrap (8 * (n : Int))) = ((64 * p + 8 * n : Nat) : Int) := by
    rw [show 64 * (p : Int) = ((64 * p : Nat) : Int) by omega, u32_nat (by omega), show 8 * (n : Int) = ((8 * n : Nat) : Int) by omega, u32_nat (by omega), show ((64 * p : Nat) : Int) + ((8 * n : Nat) : Int) = ((64 * p + 8 * n : Nat) : Int) by omega, u32_nat (by omega)]
  refine m_run ?_
  rw [Int.toNat_natCast]
  cases said with
  | false =>
    refine m_run ?_
    (apply TK.ret2; exact rfl; exact rfl; (exact m_val); (exact m_val))
    exact ⟨_, rfl, by rw [if_pos rfl]; exact congrArg (fun z => Value.tuple #[.int .u32 z, .bool true]) ho, rfl⟩
  | true =>
  rw [if_neg (by decide)]
  by_cases h4 : depth < 0
  · rw [if_pos (.inl h4)]
    refine m_run ?_
    (apply TK.ret2; exact rfl; exact rfl; (exact m_val); (exact m_val))
    exact ⟨_, rfl, rfl, rfl⟩
  by_cases h5 : 3 < depth
  · rw [if_pos (.inr h5)]
    refine m_run ?_
    (apply TK.ret2; exact rfl; exact rfl; (exact m_val); (exact m_val))
    exact ⟨_, rfl, rfl, rfl⟩
  rw [if_neg (by omega)]
  obtain ⟨k, rfl⟩ := Int.eq_ofNat_of_zero_le (show 0 ≤ depth by omega)
  have hw2 : IntKind.u32.wrap (k : Int) = (k : Int) := u32_nat (by omega)
  refine m_run ?_
  rw [hw2]
  refine m_run ?_
  (apply TK.ret2; exact rfl; exact rfl; (exact m_val); (exact m_val))
  refine ⟨_, rfl, ?_, rfl⟩
  rw [Int.toNat_natCast]
  refine congrArg (fun z => Value.tuple #[.int .u32 z, .bool true]) ?_
  rw [ho, show ((64 * p + 8 * n : Nat) : Int) + 1 = ((64 * p + 8 * n + 1 : Nat) : Int) by omega, u32_nat (by omega), show ((64 * p + 8 * n + 1 : Nat) : Int) + (k : Int) = ((64 * p + 8 * n + 1 + k : Nat) : Int) by omega, u32_nat (by omega)]
theorem takes_t (p : Nat) (args : Int) (Γ : List HP) : FnV Try.prog 53 [.int .u32 (p : Int), .int .i64 args] Γ fun v Γ' => v = .bool (predS p args true 0).2 ∧ Γ' = Γ := by
  refine Fn.enter Try.func53 rfl rfl rfl fun E => ?_
  refine m_run ?_
  (apply TL.callV; exact rfl; exact callB_of (by kernel_rfl); exact rfl; exact fun _ h => h)
  exact rpred_t p args true 0 _
  rintro _ _ ⟨rfl, rfl⟩
  refine m_run ?_
  (apply TK.ret1; exact rfl; exact rfl; (exact m_val))
  exact ⟨_, rfl, rfl, rfl⟩
end Go.Proofs.Ythbcfamfaicneaa.E
