/- works (law 03), walked. -/
import Derived.Test.YtdookobgkcnncaaDoorM9
namespace Go.Proofs.YtdookobgkcnncaaDoor.E
open Go Go.RowKit Go.Proofs
attribute [local irreducible] TK TL TQ TA Fn PV
attribute [local irreducible] rounds sched kC comp1 compN rotr hashB hashW tagB
set_option maxRecDepth 100000 in
set_option maxHeartbeats 1000000 in
theorem works3_t (Γ : List HP) (hB : gBegin Γ) (hK : gConst Γ) (hE : gErr Γ) : FnV Tryd.prog 21 [] Γ fun v Γ' => v = .bool true ∧ Γ' = Γ := by
  refine Fn.enter Tryd.func21 rfl rfl rfl fun E => ?_
  refine m_run ?_
  (apply TL.buildSlice; exact rfl; exact tb rfl; exact rfl; exact tb rfl; exact rfl; exact rfl; exact rfl; exact rfl; (exact m_lst))
  intro b6
  refine m_run ?_
  (apply TL.convConst 0; exact rfl; exact rfl; exact rfl; exact tb rfl; exact rfl; exact tb rfl; exact rfl; exact (rfl : _ = _ :: _))
  refine m_run ?_
  (apply TL.buildSlice (l := bytesV msgJ); exact rfl; exact tb rfl; exact rfl; exact tb rfl; exact rfl; exact rfl; exact rfl; exact rfl; kernel_rfl)
  intro b8
  refine m_run ?_
  (apply TL.convConst 0; exact rfl; exact rfl; exact rfl; exact tb rfl; exact rfl; exact tb rfl; exact rfl; exact (rfl : _ = _ :: _))
  refine m_run ?_
  (apply TL.callV; exact rfl; exact callB_of (by kernel_rfl); exact rfl; exact fun _ h => h)
  exact htag_t (some ⟨b6, 0, none⟩) (some ⟨b8, 0, none⟩) 4 28 [74, 101, 102, 101] msgJ _ (has_roB 1 rfl rfl) (Nat.le_refl _) (by decide) (has_roB 0 rfl rfl) (Nat.le_refl _) (by decide) (has_tlg (has_tlg hB)) (has_tlg (has_tlg hK))
  rintro _ _ ⟨rfl, rfl⟩
  obtain ⟨ta, hta⟩ : ∃ ta, tagB [74, 101, 102, 101] msgJ = ta := ⟨_, rfl⟩
  have tal : ta.length = 32 := by rw [← hta, tag_j]; rfl
  rw [hta]
  (apply TL.alloc; exact rfl; exact tb rfl; exact (by kernel_rfl : _ = List.replicate 32 (Value.int .u8 0)))
  intro b1
  (apply TL.storeAggE 0 (l' := bytesV ta); exact rfl; exact rfl; exact rfl; exact (by simpa [allOne] using bs_one ta); exact tb rfl; exact (by rw [bytesV_length, tal]; rfl); exact (by rw [bytesV_length, tal]; simp); exact (by rw [List.take_zero, List.nil_append, List.drop_of_length_le (by rw [bytesV_length, tal]; simp), List.append_nil]); exact rfl)
  refine TL.sub (Δ := row b1 (bytesV ta) 27 :: Γ) (by (repeat (first | exact List.Sublist.refl _ | apply List.Sublist.cons_cons | apply List.Sublist.cons))) ?_
  refine m_run ?_
  (apply TL.makeRow (n := 20) (c := 20); exact rfl; exact rfl; exact rfl; exact tb rfl; exact rfl; exact tb rfl; exact rfl; exact rfl)
  · exact Nat.le_refl _
  · show 1 * 20 ≤ _; omega
  · unfold maxLen; omega
  intro b2
  refine m_run ?_
  apply TK.iter (fun j ρ' Γ' => ∃ i : Nat, i + j = 20 ∧ lk ρ' 1 = .pointer (some ⟨b1, 0, none⟩) ∧ lk ρ' 2 = .slice (some ⟨b2, 0, none⟩) 20 20 ∧ lk ρ' 3 = .int .i64 (i : Int) ∧ Γ' = row b2 (bytesV (List.replicate i 11) ++ List.replicate (20 - i) (Value.int .u8 0)) 5 :: row b1 (bytesV ta) 27 :: Γ) 20
  · exact ⟨0, Nat.zero_add _, rfl, rfl, rfl, rfl⟩
  rintro j IH ρ' _ ⟨i, hij, e1, e2, e3, rfl⟩
  refine TK.know3 e1 e2 e3 ?_
  by_cases hi : i < 20
  · refine m_run ?_
    (apply TL.storeE 0 (l' := bytesV (List.replicate (i + 1) 11) ++ List.replicate (20 - (i + 1)) (Value.int .u8 0)); exact rfl; exact rfl; exact rfl; exact rfl; exact tb rfl; exact rfl; exact (by simp [bytesV_length]; omega); exact rep_set (ch := 11) hi; exact rfl)
    refine m_run ?_
    exact IH (j - 1) _ _ (by omega) ⟨i + 1, by omega, rfl, rfl, congrArg (Value.int .i64) (i64_succ i (by omega)), rfl⟩
  obtain rfl : i = 20 := by omega
  rw [Nat.sub_self, List.replicate_zero, List.append_nil]
  have hk : List.replicate 20 (11 : UInt8) = keyH := rfl
  rw [hk]
  clear IH e1 e2 e3 hi hij
  refine m_run ?_
  (apply TL.callV; exact rfl; exact callB_of (by kernel_rfl); exact rfl; exact fun _ h => h)
  exact hnew_t (some ⟨b2, 0, none⟩) 20 keyH _ (has_src_row 0 rfl rfl) (Nat.le_refl _) (by decide) (has_tlg (has_tlg hB)) (has_tlg (has_tlg hK))
  rintro _ _ ⟨b, bi, bo, rfl, rfl⟩
  refine m_run ?_
  (apply TL.buildSlice (l := bytesV [72, 105, 32]); exact rfl; exact tb rfl; exact rfl; exact tb rfl; exact rfl; exact rfl; exact rfl; exact rfl; kernel_rfl)
  intro b26
  refine m_run ?_
  (apply TL.convConst 0; exact rfl; exact rfl; exact rfl; exact tb rfl; exact rfl; exact tb rfl; exact rfl; exact (rfl : _ = _ :: _))
  refine m_run ?_
  (apply TL.buildSlice (l := bytesV [84, 104, 101, 114, 101]); exact rfl; exact tb rfl; exact rfl; exact tb rfl; exact rfl; exact rfl; exact rfl; exact rfl; kernel_rfl)
  intro b28
  refine m_run ?_
  (apply TL.convConst 0; exact rfl; exact rfl; exact rfl; exact tb rfl; exact rfl; exact tb rfl; exact rfl; exact (rfl : _ = _ :: _))
  refine m_run ?_
  (apply TL.buildSlice (l := [.slice (some ⟨b26, 0, none⟩) 3 3, .slice (some ⟨b28, 0, none⟩) 5 5]); exact rfl; exact tb rfl; exact rfl; exact tb rfl; exact rfl; exact rfl; exact rfl; exact rfl; kernel_rfl)
  intro b30
  refine m_run ?_
  (apply TL.callV (Δ := macG b bi bo keyH (row b30 [.slice (some ⟨b26, 0, none⟩) 3 3, .slice (some ⟨b28, 0, none⟩) 5 5] 30 :: roB b28 (bytesV [84, 104, 101, 114, 101]) :: roB b26 (bytesV [72, 105, 32]) :: row b2 (bytesV keyH) 5 :: row b1 (bytesV ta) 27 :: Γ)); exact rfl; exact callB_of (by kernel_rfl); exact rfl; exact fun _ h => all_perm (List.Perm.append_right (row b2 (bytesV keyH) 5 :: row b1 (bytesV ta) 27 :: Γ) (List.perm_append_comm (l₁ := [_, _, _]) (l₂ := [_, _, _]))) h)
  exact mtag_t b bi bo keyH (some ⟨b30, 0, none⟩) 2 [⟨some ⟨b26, 0, none⟩, 3, [72, 105, 32]⟩, ⟨some ⟨b28, 0, none⟩, 5, [84, 104, 101, 114, 101]⟩] _ (has_src_row 0 rfl rfl) (fun s h => by
    simp only [List.mem_cons, List.not_mem_nil, or_false] at h
    rcases h with rfl | rfl
    · exact has_roB 2 rfl rfl
    · exact has_roB 1 rfl rfl) (fun s h => by
    simp only [List.mem_cons, List.not_mem_nil, or_false] at h
    rcases h with rfl | rfl <;> exact Nat.le_refl _) (show 8 ≤ 100000000 by decide) (show 2 ≤ 1000000000 by decide) (has_tlg (has_tlg (has_tlg (has_tlg (has_tlg hK)))))
  rintro _ _ ⟨rfl, rfl⟩
  rw [show flatS [⟨some ⟨b26, 0, none⟩, 3, [72, 105, 32]⟩, ⟨some ⟨b28, 0, none⟩, 5, [84, 104, 101, 114, 101]⟩] = msgH from rfl]
  obtain ⟨tg, htg⟩ : ∃ tg, tagB keyH msgH = tg := ⟨_, rfl⟩
  have tgl : tg.length = 32 := by rw [← htg, tag_h]; rfl
  have hne : ta ≠ tg := by rw [← hta, ← htg]; exact tag_ne
  rw [htg]
  refine TL.sub (Δ := macG b bi bo keyH (row b1 (bytesV ta) 27 :: Γ)) (by (repeat (first | exact List.Sublist.refl _ | apply List.Sublist.cons_cons | apply List.Sublist.cons))) ?_
  (apply TL.alloc; exact rfl; exact tb rfl; exact (by kernel_rfl : _ = List.replicate 32 (Value.int .u8 0)))
  intro b5
  (apply TL.storeAggE 0 (l' := bytesV tg); exact rfl; exact rfl; exact rfl; exact (by simpa [allOne] using bs_one tg); exact tb rfl; exact (by rw [bytesV_length, tgl]; rfl); exact (by rw [bytesV_length, tgl]; simp); exact (by rw [List.take_zero, List.nil_append, List.drop_of_length_le (by rw [bytesV_length, tgl]; simp), List.append_nil]); exact rfl)
  refine m_run ?_
  (apply TL.pv; exact rfl; (apply PV.sliceArr (i := 0) (j := 32); exact rfl; exact tb rfl; exact rfl; exact tb rfl; exact .none; exact .none; exact (by omega); exact (by omega)))
  refine TL.know (t := 32) (v := .slice (some ⟨b1, 0, none⟩) ta.length 32) (congrArg (fun z => Value.slice (some ⟨b1, 0, none⟩) z 32) tal.symm) ?_
  (apply TL.callV; exact rfl; exact callB_of (by kernel_rfl); exact rfl; exact fun _ h => h)
  exact hex_t (some ⟨b1, 0, none⟩) 32 ta _ (has_src_row 4 rfl (by rw [bytesV_length, Nat.mul_one])) (by omega)
  rintro _ _ ⟨rfl, rfl⟩
  refine m_run ?_
  refine TL.know (t := 35) (v := .bool true) (congrArg Value.bool (decide_eq_true (by rw [← hta]; exact hex_j))) ?_
  refine m_run ?_
  (apply TL.pv; exact rfl; (apply PV.sliceArr (i := 0) (j := 32); exact rfl; exact tb rfl; exact rfl; exact tb rfl; exact .none; exact .none; exact (by omega); exact (by omega)))
  refine TL.know (t := 36) (v := .slice (some ⟨b5, 0, none⟩) tg.length 32) (congrArg (fun z => Value.slice (some ⟨b5, 0, none⟩) z 32) tgl.symm) ?_
  refine m_run ?_
  (apply TL.callV; exact rfl; exact callB_of (by kernel_rfl); exact rfl; exact fun _ h => h)
  exact hex_t (some ⟨b5, 0, none⟩) 32 tg _ (has_src_row 0 rfl (by rw [bytesV_length, Nat.mul_one])) (by omega)
  rintro _ _ ⟨rfl, rfl⟩
  refine m_run ?_
  refine TL.know (t := 40) (v := .bool true) (congrArg Value.bool (decide_eq_true (by rw [← htg]; exact hex_h))) ?_
  refine m_run ?_
  refine TL.imp (Δ := row b5 (bytesV tg) 27 :: macG b bi bo keyH (row b1 (bytesV ta) 27 :: Γ)) (fun _ h => h) ?_
  (apply TL.pv; exact rfl; (apply PV.loadAggH; exact rfl; exact tb rfl; exact rfl; exact has_tlg (has_tlg (has_tlg (has_tlg (has_rowAll)))); exact (by rw [bytesV_length, tal])))
  refine m_run ?_
  (apply TL.pv; exact rfl; (apply PV.loadAggH; exact rfl; exact tb rfl; exact rfl; exact has_tlg (has_tlg (has_tlg (has_tlg (has_rowAll)))); exact (by rw [bytesV_length, tal])))
  refine m_run ?_
  (apply TL.callV; exact rfl; exact callB_of (by kernel_rfl); exact rfl; exact fun _ h => h)
  exact same_t ta ta _ tal tal
  rintro _ _ ⟨rfl, rfl⟩
  refine m_run ?_
  (apply TL.pv; exact rfl; (apply PV.loadAggH; exact rfl; exact tb rfl; exact rfl; exact has_tlg (has_tlg (has_tlg (has_tlg (has_rowAll)))); exact (by rw [bytesV_length, tal])))
  refine m_run ?_
  (apply TL.pv; exact rfl; (apply PV.loadAggH; exact rfl; exact tb rfl; exact rfl; exact has_rowAll; exact (by rw [bytesV_length, tgl])))
  refine m_run ?_
  (apply TL.callV; exact rfl; exact callB_of (by kernel_rfl); exact rfl; exact fun _ h => h)
  exact same_t ta tg _ tal tgl
  rintro _ _ ⟨rfl, rfl⟩
  refine m_run ?_
  (apply TL.pv; exact rfl; (apply PV.loadAggH; exact rfl; exact tb rfl; exact rfl; exact has_rowAll; exact (by rw [bytesV_length, tgl])))
  refine m_run ?_
  (apply TL.buildSlice (l := bytesV msgH); exact rfl; exact tb rfl; exact rfl; exact tb rfl; exact rfl; exact rfl; exact rfl; exact rfl; kernel_rfl)
  intro b54
  refine m_run ?_
  (apply TL.convConst 0; exact rfl; exact rfl; exact rfl; exact tb rfl; exact rfl; exact tb rfl; exact rfl; exact (rfl : _ = _ :: _))
  refine m_run ?_
  (apply TL.buildSlice (l := [.slice (some ⟨b54, 0, none⟩) 8 8]); exact rfl; exact tb rfl; exact rfl; exact tb rfl; exact rfl; exact rfl; exact rfl; exact rfl; kernel_rfl)
  intro b56
  refine m_run ?_
  (apply TL.callV (Δ := macG b bi bo keyH (row b56 [.slice (some ⟨b54, 0, none⟩) 8 8] 30 :: roB b54 (bytesV msgH) :: row b5 (bytesV tg) 27 :: row b1 (bytesV ta) 27 :: Γ)); exact rfl; exact callB_of (by kernel_rfl); exact rfl; exact fun _ h => all_perm (List.Perm.append_right (row b1 (bytesV ta) 27 :: Γ) (List.perm_append_comm (l₁ := [_, _, _]) (l₂ := [_, _, _]))) h)
  exact right_t b bi bo keyH tg (some ⟨b56, 0, none⟩) 1 [⟨some ⟨b54, 0, none⟩, 8, msgH⟩] _ tgl (has_src_row 0 rfl rfl) (fun s h => by
    simp only [List.mem_cons, List.not_mem_nil, or_false] at h
    subst h
    exact has_roB 1 rfl rfl) (fun s h => by
    simp only [List.mem_cons, List.not_mem_nil, or_false] at h
    subst h
    exact Nat.le_refl _) (show 8 ≤ 100000000 by decide) (show 1 ≤ 1000000000 by decide) (has_tlg (has_tlg (has_tlg (has_tlg hK)))) (has_tlc (has_tlc (has_tlc (has_tlc hE))))
  rw [show flatS [⟨some ⟨b54, 0, none⟩, 8, msgH⟩] = msgH from rfl, htg]
  rintro _ _ (⟨_, rfl, rfl⟩ | ⟨hq, _⟩)
  rotate_left
  · exact absurd rfl hq
  refine m_run ?_
  (apply TL.pv; exact rfl; (apply PV.nilNil; exact rfl; exact tb rfl; exact rfl))
  refine m_run ?_
  (apply TL.pv; exact rfl; (apply PV.loadAggH; exact rfl; exact tb rfl; exact rfl; exact has_tlg (has_tlg (has_tlg (has_tlg (has_tlg (has_tlg (has_rowAll)))))); exact (by rw [bytesV_length, tal])))
  refine m_run ?_
  (apply TL.buildSlice (l := bytesV msgH); exact rfl; exact tb rfl; exact rfl; exact tb rfl; exact rfl; exact rfl; exact rfl; exact rfl; kernel_rfl)
  intro b63
  refine m_run ?_
  (apply TL.convConst 0; exact rfl; exact rfl; exact rfl; exact tb rfl; exact rfl; exact tb rfl; exact rfl; exact (rfl : _ = _ :: _))
  refine m_run ?_
  (apply TL.buildSlice (l := [.slice (some ⟨b63, 0, none⟩) 8 8]); exact rfl; exact tb rfl; exact rfl; exact tb rfl; exact rfl; exact rfl; exact rfl; exact rfl; kernel_rfl)
  intro b65
  refine m_run ?_
  (apply TL.callV (Δ := macG b bi bo keyH (row b65 [.slice (some ⟨b63, 0, none⟩) 8 8] 30 :: roB b63 (bytesV msgH) :: row b56 [.slice (some ⟨b54, 0, none⟩) 8 8] 30 :: roB b54 (bytesV msgH) :: row b5 (bytesV tg) 27 :: row b1 (bytesV ta) 27 :: Γ)); exact rfl; exact callB_of (by kernel_rfl); exact rfl; exact fun _ h => all_perm (List.Perm.append_right (row b56 [.slice (some ⟨b54, 0, none⟩) 8 8] 30 :: roB b54 (bytesV msgH) :: row b5 (bytesV tg) 27 :: row b1 (bytesV ta) 27 :: Γ) (List.perm_append_comm (l₁ := [_, _]) (l₂ := [_, _, _]))) h)
  exact right_t b bi bo keyH ta (some ⟨b65, 0, none⟩) 1 [⟨some ⟨b63, 0, none⟩, 8, msgH⟩] _ tal (has_src_row 0 rfl rfl) (fun s h => by
    simp only [List.mem_cons, List.not_mem_nil, or_false] at h
    subst h
    exact has_roB 1 rfl rfl) (fun s h => by
    simp only [List.mem_cons, List.not_mem_nil, or_false] at h
    subst h
    exact Nat.le_refl _) (show 8 ≤ 100000000 by decide) (show 1 ≤ 1000000000 by decide) (has_tlg (has_tlg (has_tlg (has_tlg (has_tlg (has_tlg hK)))))) (has_tlc (has_tlc (has_tlc (has_tlc (has_tlc (has_tlc hE))))))
  rw [show flatS [⟨some ⟨b63, 0, none⟩, 8, msgH⟩] = msgH from rfl, htg]
  rintro _ _ (⟨hq, _⟩ | ⟨_, b', rfl, rfl⟩)
  · exact absurd hq hne
  refine m_run ?_
  (apply TL.pv; exact rfl; (apply PV.iface; exact rfl; exact tb rfl; exact rfl))
  refine m_run ?_
  (apply TL.callV; exact rfl; exact callB_of (by kernel_rfl); exact rfl; exact fun _ h => h)
  exact is_t b' 12 12 _ (has_at (up_cell _ _ _) 0 rfl fun _ h => wrA_e h)
  rintro _ _ ⟨rfl, rfl⟩
  refine m_run ?_
  (apply TK.retS1; exact rfl; exact rfl; (exact m_val))
  · exact ⟨_, rfl, rfl, rfl⟩
  · (repeat (first | exact List.Sublist.refl _ | apply List.Sublist.cons_cons | apply List.Sublist.cons))
end Go.Proofs.YtdookobgkcnncaaDoor.E
