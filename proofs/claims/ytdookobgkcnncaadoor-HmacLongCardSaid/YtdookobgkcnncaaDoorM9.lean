/- works and vast (law 03), walked. -/
import Derived.Test.YtdookobgkcnncaaDoorM7
import Derived.Test.YtdookobgkcnncaaDoorM8
import Derived.Test.YtdookobgkcnncaaDoorJ6
namespace Go.Proofs.YtdookobgkcnncaaDoor.E
open Go Go.RowKit Go.Proofs
/-! ### the chapter's examples -/
def msgJ : List UInt8 := [119, 104, 97, 116, 32, 100, 111, 32, 121, 97, 32, 119, 97, 110, 116, 32, 102, 111, 114, 32, 110, 111, 116, 104, 105, 110, 103, 63]
def msgH : List UInt8 := [72, 105, 32, 84, 104, 101, 114, 101]
def keyH : List UInt8 := List.replicate 20 11
theorem tag_j : tagB [74, 101, 102, 101] msgJ = [91, 220, 193, 70, 191, 96, 117, 78, 106, 4, 36, 38, 8, 149, 117, 199, 90, 0, 63, 8, 157, 39, 57, 131, 157, 236, 88, 185, 100, 236, 56, 67] := by decide +kernel
theorem tag_h : tagB keyH msgH = [176, 52, 76, 97, 216, 219, 56, 83, 92, 168, 175, 206, 175, 11, 241, 43, 136, 29, 194, 0, 201, 131, 61, 167, 38, 233, 55, 108, 46, 50, 207, 247] := by decide +kernel
theorem hex_j : hexM (tagB [74, 101, 102, 101] msgJ) = [53, 98, 100, 99, 99, 49, 52, 54, 98, 102, 54, 48, 55, 53, 52, 101, 54, 97, 48, 52, 50, 52, 50, 54, 48, 56, 57, 53, 55, 53, 99, 55, 53, 97, 48, 48, 51, 102, 48, 56, 57, 100, 50, 55, 51, 57, 56, 51, 57, 100, 101, 99, 53, 56, 98, 57, 54, 52, 101, 99, 51, 56, 52, 51] := by rw [tag_j]; decide +kernel
theorem hex_h : hexM (tagB keyH msgH) = [98, 48, 51, 52, 52, 99, 54, 49, 100, 56, 100, 98, 51, 56, 53, 51, 53, 99, 97, 56, 97, 102, 99, 101, 97, 102, 48, 98, 102, 49, 50, 98, 56, 56, 49, 100, 99, 50, 48, 48, 99, 57, 56, 51, 51, 100, 97, 55, 50, 54, 101, 57, 51, 55, 54, 99, 50, 101, 51, 50, 99, 102, 102, 55] := by rw [tag_h]; decide +kernel
theorem tag_ne : tagB [74, 101, 102, 101] msgJ ≠ tagB keyH msgH := by rw [tag_j, tag_h]; decide +kernel
attribute [local irreducible] TK TL TQ TA Fn PV
attribute [local irreducible] rounds sched kC comp1 compN rotr hashB hashW tagB
set_option maxRecDepth 100000 in
set_option maxHeartbeats 1000000 in
theorem vast3_t (A B : Option Addr) (c c' : Nat) (key : List UInt8) (ss : List (Sl UInt8)) (Γ : List HP) (hs : has Γ (srcAt 1 B ss.length (ss.map Sl.v))) (hl : ∀ s ∈ ss, s.l.length ≤ 140737488351232) :
    FnV Tryd.prog 20 [.slice A key.length c, .slice B ss.length c'] Γ fun v Γ' => ∃ t, v = .bool t ∧ Γ' = Γ ∧ (t = false → key.length ≤ 2000 ∧ ss.length ≤ 60 ∧ (flatS ss).length ≤ 8192) := by
  refine Fn.enter Tryd.func20 rfl rfl rfl fun E => ?_
  by_cases vk : 2000 < key.length
  · refine m_run ?_
    (apply TK.ret1; exact rfl; exact rfl; (exact m_val))
    exact ⟨_, rfl, true, rfl, rfl, fun h => by cases h⟩
  by_cases v0 : 60 < ss.length
  · refine m_run ?_
    (apply TK.ret1; exact rfl; exact rfl; (exact m_val))
    exact ⟨_, rfl, true, rfl, rfl, fun h => by cases h⟩
  have hfl := fun i (hi : i ≤ 60) => Nat.le_trans (flatS_bound hl i) (Nat.mul_le_mul_right 140737488351232 hi)
  refine m_run ?_
  apply TK.iter (fun j ρ' Γ' => ∃ i : Nat, i + j = ss.length ∧ lk ρ' 1 = .slice B ss.length c' ∧ lk ρ' 5 = .int .i64 ((flatS (ss.take i)).length : Int) ∧ lk ρ' 6 = .int .i64 (i : Int) ∧ Γ' = Γ) ss.length
  · exact ⟨0, Nat.zero_add _, rfl, rfl, rfl, rfl⟩
  rintro j IH ρ' Γ ⟨i, hij, e1, e5, e6, rfl⟩
  refine TK.know3 e1 e5 e6 ?_
  have h1 := hfl i (by omega)
  by_cases hi : i < ss.length
  · obtain ⟨s, hsi⟩ : ∃ s, ss[i]? = some s := ⟨ss[i], by simp [hi]⟩
    have hsl := hl s (List.mem_of_getElem? hsi)
    refine TK.mem fun m0 hm0 => ?_
    obtain ⟨b0, o0, rfl⟩ := src_some (hs m0 hm0) (by rw [List.length_map]; omega)
    have hcell := has_get hs (slsV_get hsi)
    refine m_run ?_
    exact IH (j - 1) _ _ (by omega) ⟨i + 1, by omega, rfl, congrArg (Value.int .i64) (by rw [flatS_take hsi, List.length_append, ← Int.natCast_add, i64_nat (by omega)]), congrArg (Value.int .i64) (i64_succ i (by omega)), rfl⟩
  obtain rfl : i = ss.length := by omega
  rw [List.take_length] at h1 e5
  by_cases v2 : 8192 < (flatS ss).length
  · refine m_run ?_
    (apply TK.ret1; exact rfl; exact rfl; (exact m_val))
    exact ⟨_, rfl, _, rfl, rfl, fun h => by simp at h; omega⟩
  · refine m_run ?_
    (apply TK.ret1; exact rfl; exact rfl; (exact m_val))
    exact ⟨_, rfl, _, rfl, rfl, fun h => by simp at h; omega⟩
end Go.Proofs.YtdookobgkcnncaaDoor.E
