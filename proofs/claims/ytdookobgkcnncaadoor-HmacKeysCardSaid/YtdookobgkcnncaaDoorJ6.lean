/- ShaLengths: so many bytes of a letter: the walk. -/
import Derived.Test.YtdookobgkcnncaaDoorJ5
import Derived.Test.YtdookobgkcnncaaDoorH7
import Derived.Test.YtdookobgkcnncaaDoorK2
namespace Go.Proofs.YtdookobgkcnncaaDoor.E
open Go Go.RowKit Go.Proofs
attribute [local irreducible] TK TL TQ TA Fn PV
attribute [local irreducible] rounds sched kC comp1 compN rotr hashB hashW
theorem rep_set {q i : Nat} {ch : UInt8} (hi : i < q) : (bytesV (List.replicate i ch) ++ List.replicate (q - i) (Value.int .u8 0)).set i (.int .u8 (ch.toNat : Int)) = bytesV (List.replicate (i + 1) ch) ++ List.replicate (q - (i + 1)) (Value.int .u8 0) := by
  have h1 : (bytesV (List.replicate i ch)).length = i := by rw [bytesV_length, List.length_replicate]
  rw [show q - i = q - (i + 1) + 1 by omega, List.replicate_succ, List.set_append_right _ _ (by omega), h1, Nat.sub_self, List.set_cons_zero, List.replicate_succ' , bytesV_append, List.append_assoc]
  rfl
set_option maxRecDepth 100000 in
set_option maxHeartbeats 1000000 in
theorem lengths_t (n : Nat) (ch : UInt8) (Γ : List HP) (hn : n < 65536) (hB : gBegin Γ) (hK : gConst Γ) :
    FnV Tryd.prog 6 [.int .u16 (n : Int), .int .u8 (ch.toNat : Int)] Γ fun v Γ' => v = .bool true ∧ Γ' = Γ := by
  refine Fn.enter Tryd.func6 rfl rfl rfl fun E => ?_
  obtain ⟨q, hq⟩ : ∃ q, n % 700 = q := ⟨_, rfl⟩
  have hq7 : q < 700 := by omega
  refine m_run ?_
  refine TL.know (t := 9) (v := .int .i64 (q : Int)) (congrArg (Value.int .i64) (by rw [i64_nat (by omega), ← hq]; rfl)) ?_
  (apply TL.makeRow (n := q) (c := q); exact rfl; exact rfl; exact rfl; exact tb rfl; exact rfl; exact tb rfl; exact rfl; exact rfl)
  · exact Nat.le_refl _
  · show 1 * q ≤ _; omega
  · unfold maxLen; omega
  intro b5
  refine m_run ?_
  apply TK.iter (fun j ρ' Γ' => ∃ i : Nat, i + j = q ∧ lk ρ' 1 = .int .u8 (ch.toNat : Int) ∧ lk ρ' 5 = .slice (some ⟨b5, 0, none⟩) q q ∧ lk ρ' 6 = .int .i64 (i : Int) ∧ Γ' = row b5 (bytesV (List.replicate i ch) ++ List.replicate (q - i) (Value.int .u8 0)) 5 :: Γ) q
  · exact ⟨0, Nat.zero_add _, rfl, rfl, rfl, rfl⟩
  rintro j IH ρ' _ ⟨i, hij, e1, e5, e6, rfl⟩
  refine TK.know3 e1 e5 e6 ?_
  by_cases hi : i < q
  · refine m_run ?_
    (apply TL.storeE 0 (l' := bytesV (List.replicate (i + 1) ch) ++ List.replicate (q - (i + 1)) (Value.int .u8 0)); exact rfl; exact rfl; exact rfl; exact rfl; exact tb rfl; exact rfl; exact (by simp [bytesV_length]; omega); exact rep_set (ch := ch) hi; exact rfl)
    refine m_run ?_
    exact IH (j - 1) _ _ (by omega) ⟨i + 1, by omega, rfl, rfl, congrArg (Value.int .i64) (i64_succ i (by omega)), rfl⟩
  obtain rfl : i = q := by omega
  rw [Nat.sub_self, List.replicate_zero, List.append_nil]
  obtain ⟨L, hLe⟩ : ∃ L, List.replicate i ch = L := ⟨_, rfl⟩
  obtain rfl : i = L.length := by rw [← hLe, List.length_replicate]
  rw [hLe]
  clear IH e1 e5 e6 hLe hi hij hq
  refine m_run ?_
  (apply TL.buildSlice; exact rfl; exact tb rfl; exact rfl; exact tb rfl; exact rfl; exact rfl; exact rfl; exact rfl; (exact m_lst))
  intro b6
  refine m_run ?_
  (apply TL.callV; exact rfl; exact callB_of (by kernel_rfl); exact rfl; exact fun _ h => h)
  exact shasum_t (some ⟨b6, 0, none⟩) 1 [⟨some ⟨b5, 0, none⟩, L.length, L⟩] _ (has_src_row 0 rfl rfl) (fun x h => by
    simp only [List.mem_cons, List.not_mem_nil, or_false] at h
    subst h
    exact has_src_row 1 rfl (by rw [bytesV_length, Nat.mul_one])) (fun x h => by
    simp only [List.mem_cons, List.not_mem_nil, or_false] at h
    subst h
    exact Nat.le_refl _) (by rw [flat1]; omega) (show 1 ≤ 1000000000 by decide) (has_tlg (has_tlg hB)) (has_tlg (has_tlg hK))
  rintro _ _ ⟨rfl, rfl⟩
  rw [flat1]
  refine m_run ?_
  (apply TL.callV; exact rfl; exact callB_of (by kernel_rfl); exact rfl; exact fun _ h => h)
  exact refsum_t (some ⟨b5, 0, none⟩) L.length L _ (has_src_row 1 rfl (by rw [bytesV_length, Nat.mul_one])) (by omega)
  rintro _ _ ⟨rfl, rfl⟩
  refine m_run ?_
  (apply TL.pv; exact rfl; (apply PV.eqBytes (a := hashB L) (b := hashB L); exact rfl; exact rfl; exact tb rfl; exact rfl; exact tb rfl; exact rfl; exact rfl; kernel_rfl; exact hashB_len _; exact hashB_len _))
  refine TL.know (t := 26) (v := .bool true) (congrArg Value.bool (beq_self_eq_true _)) ?_
  refine m_run ?_
  (apply TL.callV; exact rfl; exact callB_of (by kernel_rfl); exact rfl; exact fun _ h => h)
  exact works2_t _ (has_tlg (has_tlg hB)) (has_tlg (has_tlg hK))
  rintro _ _ ⟨rfl, rfl⟩
  refine m_run ?_
  (apply TK.retS1; exact rfl; exact rfl; (exact m_val))
  · exact ⟨_, rfl, rfl, rfl⟩
  · (repeat (first | exact List.Sublist.refl _ | apply List.Sublist.cons_cons | apply List.Sublist.cons))
end Go.Proofs.YtdookobgkcnncaaDoor.E
