/- vast (law 02), walked. -/
import Derived.Test.YtdookobgkcnncaaDoorH7
namespace Go.Proofs.YtdookobgkcnncaaDoor.E
open Go Go.RowKit Go.Proofs
attribute [local irreducible] TK TL TQ TA Fn PV
theorem flatS_bound {M : Nat} {ss : List (Sl UInt8)} (hl : ∀ s ∈ ss, s.l.length ≤ M) (i : Nat) : (flatS (ss.take i)).length ≤ i * M := by
  induction i with
  | zero => rw [List.take_zero]; exact Nat.zero_le _
  | succ i ih =>
    rw [Nat.succ_mul]
    cases h : ss[i]? with
    | none =>
      have : ss.take (i + 1) = ss.take i := by rw [List.take_add_one, h]; simp
      rw [this]; omega
    | some s =>
      have := hl s (List.mem_of_getElem? h)
      rw [flatS_take h, List.length_append]; omega
set_option maxRecDepth 100000 in
theorem vast2_t (A : Option Addr) (c : Nat) (ss : List (Sl UInt8)) (Γ : List HP) (hs : has Γ (srcAt 1 A ss.length (ss.map Sl.v))) (hl : ∀ s ∈ ss, s.l.length ≤ 140737488351232) :
    FnV Tryd.prog 10 [.slice A ss.length c] Γ fun v Γ' => ∃ t, v = .bool t ∧ Γ' = Γ ∧ (t = false → ss.length ≤ 200 ∧ (flatS ss).length ≤ 16384) := by
  refine Fn.enter Tryd.func10 rfl rfl rfl fun E => ?_
  by_cases v0 : 200 < ss.length
  · refine m_run ?_
    (apply TK.ret1; exact rfl; exact rfl; (exact m_val))
    exact ⟨_, rfl, true, rfl, rfl, fun h => by cases h⟩
  have hfl := fun i (hi : i ≤ 200) => Nat.le_trans (flatS_bound hl i) (Nat.mul_le_mul_right 140737488351232 hi)
  refine m_run ?_
  apply TK.iter (fun j ρ' Γ' => ∃ i : Nat, i + j = ss.length ∧ lk ρ' 0 = .slice A ss.length c ∧ lk ρ' 3 = .int .i64 ((flatS (ss.take i)).length : Int) ∧ lk ρ' 4 = .int .i64 (i : Int) ∧ Γ' = Γ) ss.length
  · exact ⟨0, Nat.zero_add _, rfl, rfl, rfl, rfl⟩
  rintro j IH ρ' Γ ⟨i, hij, e0, e3, e4, rfl⟩
  refine TK.know3 e0 e3 e4 ?_
  have h1 := hfl i (by omega)
  by_cases hi : i < ss.length
  · obtain ⟨s, hsi⟩ : ∃ s, ss[i]? = some s := ⟨ss[i], by simp [hi]⟩
    have hsl := hl s (List.mem_of_getElem? hsi)
    refine TK.mem fun m0 hm0 => ?_
    obtain ⟨b0, o0, rfl⟩ := src_some (hs m0 hm0) (by rw [List.length_map]; omega)
    have hcell := has_get hs (slsV_get hsi)
    refine m_run ?_
    exact IH (j - 1) _ _ (by omega) ⟨i + 1, by omega, rfl, congrArg (Value.int .i64) (by rw [flatS_take hsi, List.length_append, ← Int.natCast_add, i64_nat (by omega)]), congrArg (Value.int .i64) (i64_succ i (by omega)), rfl⟩
  obtain rfl : i = ss.length := by omega
  rw [List.take_length] at h1 ⊢
  by_cases h2 : 16384 < (flatS ss).length
  · refine m_run ?_
    (apply TK.ret1; exact rfl; exact rfl; (exact m_val))
    exact ⟨_, rfl, _, rfl, rfl, fun h => absurd (of_decide_eq_false h) (by omega)⟩
  · refine m_run ?_
    (apply TK.ret1; exact rfl; exact rfl; (exact m_val))
    exact ⟨_, rfl, _, rfl, rfl, fun _ => ⟨by omega, by omega⟩⟩
end Go.Proofs.YtdookobgkcnncaaDoor.E
