/- The document's Join, walked. -/
import Derived.Test.YtdookobgkcnncaaDoorH6
namespace Go.Proofs.YtdookobgkcnncaaDoor.E
open Go Go.RowKit Go.Proofs
attribute [local irreducible] TK TL TQ TA Fn PV
set_option maxRecDepth 100000 in
theorem join_t (A : Option Addr) (c : Nat) (ss : List (Sl UInt8)) (Γ : List HP) (hs : has Γ (srcAt 1 A ss.length (ss.map Sl.v))) (hss : ∀ s ∈ ss, has Γ (srcAt 1 s.A s.l.length (bytesV s.l))) (hn : ss.length ≤ 1000000000) (hlen : (flatS ss).length ≤ 1000000000) :
    FnV Tryd.prog 15 [.slice A ss.length c] Γ (RB 5 Γ (flatS ss)) := by
  refine Fn.enter Tryd.func15 rfl rfl rfl fun E => ?_
  refine m_run ?_
  refine TK.free (H := bsA 5 (.slice none 0 0) []) (fun m h => bs_nil _ h) ?_
  apply TK.iter (fun j ρ' Γ' => ∃ (i : Nat) (A' : Option Addr) (k : Nat), i + j = ss.length ∧ lk ρ' 0 = .slice A ss.length c ∧ lk ρ' 3 = .slice A' (flatS (ss.take i)).length k ∧ (flatS (ss.take i)).length ≤ k ∧ lk ρ' 4 = .int .i64 (i : Int) ∧ Γ' = bsA 5 (.slice A' (flatS (ss.take i)).length k) (flatS (ss.take i)) :: Γ) ss.length
  · exact ⟨0, none, 0, Nat.zero_add _, rfl, rfl, Nat.le_refl _, rfl, rfl⟩
  rintro j IH ρ' _ ⟨i, A1, k1, hij, e0, e3, hk1, e4, rfl⟩
  refine TK.know3 e0 e3 e4 ?_
  by_cases hi : i < ss.length
  · obtain ⟨s, hsi⟩ : ∃ s, ss[i]? = some s := ⟨ss[i], by simp [hi]⟩
    have hsrc := hss s (List.mem_of_getElem? hsi)
    refine TK.mem fun m0 hm0 => ?_
    obtain ⟨b2, o2, rfl⟩ := src_some (has_tls hs m0 hm0) (by rw [List.length_map]; omega)
    clear hm0 m0
    have hcell := has_get hs (slsV_get hsi)
    have hl1 := flatS_len ss (i + 1)
    have htk := flatS_take hsi
    rw [htk, List.length_append] at hl1
    obtain ⟨X, hX⟩ : ∃ X, flatS (ss.take i) = X := ⟨_, rfl⟩
    rw [hX] at hl1 htk hk1 ⊢
    refine m_run ?_
    (apply TL.appB 0; exact rfl; exact rfl; exact tb rfl; exact rfl; exact tb rfl; exact rfl; exact rfl; exact rfl; exact rfl; exact fun _ h => h; exact rfl; (exact m_hsrc))
    · omega
    · exact fun _ => (rfl : _ = _ :: _)
    intro A2 k2 hk2
    rw [← htk] at hk2 ⊢
    refine m_run ?_
    exact IH (j - 1) _ _ (by omega) ⟨i + 1, A2, k2, by omega, rfl, rfl, hk2, congrArg (Value.int .i64) (i64_succ i (by omega)), rfl⟩
  obtain rfl : i = ss.length := by omega
  rw [List.take_length] at hk1 ⊢
  refine m_run ?_
  (apply TK.ret1; exact rfl; exact rfl; (exact m_val))
  exact ⟨_, rfl, A1, k1, rfl, hk1, rfl⟩
end Go.Proofs.YtdookobgkcnncaaDoor.E
