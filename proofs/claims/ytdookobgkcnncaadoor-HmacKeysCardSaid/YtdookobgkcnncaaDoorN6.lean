/- HmacKeys, whatever is handed in: the walk. -/
import Derived.Test.YtdookobgkcnncaaDoorN5
import Derived.Test.YtdookobgkcnncaaDoorN4
namespace Go.Proofs.YtdookobgkcnncaaDoor.E
open Go Go.RowKit Go.Proofs
theorem tag_pad {key : List UInt8} {z : Nat} (h : key.length + z ≤ 64) (m : List UInt8) : tagB (key ++ List.replicate z 0) m = tagB key m := by
  have h1 : keyB key = key := if_neg (by omega)
  have h2 : keyB (key ++ List.replicate z 0) = key ++ List.replicate z 0 := if_neg (by simp; omega)
  have h3 : fill64 (key ++ List.replicate z 0) = fill64 key := by
    unfold fill64
    rw [List.append_assoc, List.replicate_append_replicate]
    congr 2
    simp; omega
  unfold tagB innerB blkB
  rw [h1, h2, h3]
attribute [local irreducible] TK TL TQ TA Fn PV
attribute [local irreducible] rounds sched kC comp1 compN rotr hashB hashW tagB
theorem flat2 (a b : List UInt8) (A B : Option Addr) (c d : Nat) : flatS [⟨A, c, a⟩, ⟨B, d, b⟩] = a ++ b := by simp [flatS]
set_option maxRecDepth 100000 in
set_option maxHeartbeats 1000000 in
theorem keys_t (A B : Option Addr) (c c' more cut : Nat) (key msg : List UInt8) (Γ : List HP) (hk : has Γ (srcAt 1 A key.length (bytesV key))) (hkc : key.length ≤ c) (hm : has Γ (srcAt 1 B msg.length (bytesV msg))) (hmc : msg.length ≤ c') (hmore : more < 256) (hcut : cut < 65536)
    (hB : gBegin Γ) (hK : gConst Γ) (hE : gErr Γ) :
    FnV Tryd.prog 8 [.slice A key.length c, .slice B msg.length c', .int .u8 (more : Int), .int .u16 (cut : Int)] Γ fun v Γ' => v = .bool true ∧ Γ' = Γ := by
  refine Fn.enter Tryd.func8 rfl rfl rfl fun E => ?_
  by_cases vk : 2000 < key.length
  · refine m_run ?_
    (apply TL.callV; exact rfl; exact callB_of (by kernel_rfl); exact rfl; exact fun _ h => h)
    exact works3_t _ hB hK hE
    rintro _ Γ ⟨rfl, rfl⟩
    refine m_run ?_
    (apply TK.ret1; exact rfl; exact rfl; (exact m_val))
    exact ⟨_, rfl, rfl, rfl⟩
  by_cases vm : 4096 < msg.length
  · refine m_run ?_
    (apply TL.callV; exact rfl; exact callB_of (by kernel_rfl); exact rfl; exact fun _ h => h)
    exact works3_t _ hB hK hE
    rintro _ Γ ⟨rfl, rfl⟩
    refine m_run ?_
    (apply TK.ret1; exact rfl; exact rfl; (exact m_val))
    exact ⟨_, rfl, rfl, rfl⟩
  obtain ⟨k, hkq⟩ : ∃ k, cut % (msg.length + 1) = k := ⟨_, rfl⟩
  have hkm : k ≤ msg.length := by have := Nat.mod_lt cut (show 0 < msg.length + 1 by omega); omega
  refine m_run ?_
  (apply TL.callV; exact rfl; exact callB_of (by kernel_rfl); exact rfl; exact fun _ h => h)
  exact htag_t A B c c' key msg _ hk hkc (by omega) hm hmc (by omega) hB hK
  rintro _ Γ ⟨rfl, rfl⟩
  obtain ⟨tg, htg⟩ : ∃ tg, tagB key msg = tg := ⟨_, rfl⟩
  have tgl : tg.length = 32 := by rw [← htg]; exact tagB_len _ _
  rw [htg]
  (apply TL.alloc; exact rfl; exact tb rfl; exact (by kernel_rfl : _ = List.replicate 32 (Value.int .u8 0)))
  intro b9
  (apply TL.storeAggE 0 (l' := bytesV tg); exact rfl; exact rfl; exact rfl; exact (by simpa [allOne] using bs_one tg); exact tb rfl; exact (by rw [bytesV_length, tgl]; rfl); exact (by rw [bytesV_length, tgl]; simp); exact (by rw [List.take_zero, List.nil_append, List.drop_of_length_le (by rw [bytesV_length, tgl]; simp), List.append_nil]); exact rfl)
  refine m_run ?_
  refine TL.know (t := 27) (v := .int .i64 (cut : Int)) (congrArg (Value.int .i64) (i64_nat (by omega))) ?_
  refine TL.know (t := 30) (v := .int .i64 ((msg.length + 1 : Nat) : Int)) (congrArg (Value.int .i64) (i64_succ _ (by omega))) ?_
  (apply TL.pv; exact rfl; (apply PV.remN (n := cut) (m := msg.length + 1); exact rfl; exact rfl; exact rfl; exact (by omega)))
  rw [hkq]
  refine m_run ?_
  (apply TL.callV; exact rfl; exact callB_of (by kernel_rfl); exact rfl; exact fun _ h => h)
  exact hnew_t A c key _ (has_tls hk) hkc (by omega) (has_tlg hB) (has_tlg hK)
  rintro _ _ ⟨b, bi, bo, rfl, rfl⟩
  refine m_run ?_
  refine TK.imp (Δ := macG b bi bo key (row b9 (bytesV tg) 27 :: Γ)) (fun _ h => h) ?_
  have hp1 : has (row b9 (bytesV tg) 27 :: Γ) (srcAt 1 (if c' = 0 then B else B.map fun a => a.add (0 * 1)) (msg.take k).length (bytesV (msg.take k))) := by
    have h := has_imp (has_tls (K := row b9 (bytesV tg) 27) hm) fun m hm => src_part (c := c') hm (Nat.zero_le k) hkm (Nat.le_trans hkm hmc)
    have h2 := has_part (l := msg) h (by omega)
    rw [List.length_take, Nat.min_eq_left hkm]
    simpa using h2
  have hp2 : has (row b9 (bytesV tg) 27 :: Γ) (srcAt 1 (if c' = k then B else B.map fun a => a.add (k * 1)) (msg.drop k).length (bytesV (msg.drop k))) := by
    have h := has_imp (has_tls (K := row b9 (bytesV tg) 27) hm) fun m hm => src_part (c := c') hm hkm (Nat.le_refl _) hmc
    have h2 := has_part (l := msg) h (by omega)
    rw [List.length_drop]
    rwa [List.take_of_length_le (by rw [List.length_drop]; exact Nat.le_refl _)] at h2
  refine TK.drawS mixed rfl ?_
  refine m_take (At.mk : At 0) ?_; refine m_take (At.mk : At 1) ?_; refine m_take (At.mk : At 2) ?_; refine m_take (At.mk : At 3) ?_; refine m_take (At.mk : At 4) ?_; refine m_take (At.mk : At 5) ?_
  (apply TA.takeY (At.mk : At 6); exact rfl; exact rfl; exact rfl; exact rfl; exact rfl; kernel_rfl; ((focus ((repeat (first | assumption | exact Ent.refl _ | apply Ent.tail)); done))); (apply PV.sliceS (i := 0) (j := k); exact rfl; exact tb rfl; exact rfl; exact tb rfl; exact .none; exact .some rfl; exact Nat.zero_le _; exact Nat.le_trans hkm hmc))
  refine TA.know (t := 40) (v := .slice (if c' = 0 then B else B.map fun a => a.add (0 * 1)) (msg.take k).length c') (congrArg (fun z : Nat => Value.slice (if c' = 0 then B else B.map fun a : Addr => a.add (0 * 1)) z c') (show k - 0 = (msg.take k).length by rw [List.length_take, Nat.min_eq_left hkm, Nat.sub_zero])) ?_
  refine m_take (At.mk : At 7) ?_; refine m_take (At.mk : At 8) ?_
  (apply TA.takeY (At.mk : At 9); exact rfl; exact rfl; exact rfl; exact rfl; exact rfl; kernel_rfl; ((focus ((repeat (first | assumption | exact Ent.refl _ | apply Ent.tail)); done))); (apply PV.sliceS (i := k) (j := msg.length); exact rfl; exact tb rfl; exact rfl; exact tb rfl; exact .some rfl; exact .none; exact hkm; exact hmc))
  refine TA.know (t := 43) (v := .slice (if c' = k then B else B.map fun a => a.add (k * 1)) (msg.drop k).length (c' - k)) (congrArg (fun z : Nat => Value.slice (if c' = k then B else B.map fun a : Addr => a.add (k * 1)) z (c' - k)) (show msg.length - k = (msg.drop k).length from List.length_drop.symm)) ?_
  (apply TA.takeY (At.mk : At 12); exact rfl; exact rfl; exact rfl; exact rfl; exact rfl; kernel_rfl; ((focus ((repeat (first | assumption | exact Ent.refl _ | apply Ent.tail)); done))); (apply PV.loadAggH; exact rfl; exact tb rfl; exact rfl; exact has_tlg (has_tlg (has_tlg (has_rowAll))); exact (by rw [bytesV_length, tgl])))
  (apply TA.one 10; kernel_rfl; exact rfl)
  refine m_rrun ?_
  (apply TL.buildSlice (l := [.slice (if c' = 0 then B else B.map fun a => a.add (0 * 1)) (msg.take k).length c', .slice (if c' = k then B else B.map fun a => a.add (k * 1)) (msg.drop k).length (c' - k)]); exact rfl; exact tb rfl; exact rfl; exact tb rfl; exact rfl; exact rfl; exact rfl; exact rfl; kernel_rfl)
  intro b44
  refine TL.back (by (focus ((repeat (first | assumption | exact Ent.refl _ | apply Ent.tail)); done))) ?_
  (apply TA.one 11; kernel_rfl; exact rfl)
  refine m_rrun ?_
  (apply TL.callV (Δ := macG b bi bo key (row b44 [.slice (if c' = 0 then B else B.map fun a => a.add (0 * 1)) (msg.take k).length c', .slice (if c' = k then B else B.map fun a => a.add (k * 1)) (msg.drop k).length (c' - k)] 30 :: row b9 (bytesV tg) 27 :: Γ)); exact rfl; exact callB_of (by kernel_rfl); exact rfl; exact fun _ h => all_perm (List.Perm.append_right (row b9 (bytesV tg) 27 :: Γ) (List.perm_append_comm (l₁ := [_]) (l₂ := [_, _, _]))) h)
  exact mtag_t b bi bo key (some ⟨b44, 0, none⟩) 2 [⟨_, c', msg.take k⟩, ⟨_, c' - k, msg.drop k⟩] _ (has_src_row 0 rfl rfl) (fun x h => by
    simp only [List.mem_cons, List.not_mem_nil, or_false] at h
    rcases h with rfl | rfl
    · exact has_tls hp1
    · exact has_tls hp2) (fun x h => by
    simp only [List.mem_cons, List.not_mem_nil, or_false] at h
    rcases h with rfl | rfl
    · show (msg.take k).length ≤ c'
      rw [List.length_take]; omega
    · show (msg.drop k).length ≤ c' - k
      rw [List.length_drop]; omega) (by rw [flat2, List.take_append_drop]; omega) (show 2 ≤ 1000000000 by decide) (has_tlg (has_tlg hK))
  rintro _ _ ⟨rfl, rfl⟩
  rw [flat2, List.take_append_drop, htg]
  refine TL.perm (Δ := row b44 [.slice (if c' = 0 then B else B.map fun a => a.add (0 * 1)) (msg.take k).length c', .slice (if c' = k then B else B.map fun a => a.add (k * 1)) (msg.drop k).length (c' - k)] 30 :: macG b bi bo key (row b9 (bytesV tg) 27 :: Γ)) (List.Perm.append_right (row b9 (bytesV tg) 27 :: Γ) (List.perm_append_comm (l₁ := [_, _, _]) (l₂ := [_]))) ?_
  refine TL.back (by (focus ((repeat (first | assumption | exact Ent.refl _ | apply Ent.tail)); done))) ?_
  (apply TA.takeY (At.mk : At 13); exact rfl; exact rfl; exact rfl; exact rfl; exact rfl; kernel_rfl; ((focus ((repeat (first | assumption | exact Ent.refl _ | apply Ent.tail)); done))); (apply PV.neBytes; exact rfl; exact rfl; exact tb rfl; exact rfl; exact tb rfl; exact rfl; exact rfl; kernel_rfl; exact tgl; exact tgl))
  refine TA.isF 47 rfl (not_f (beq_self_eq_true tg)) ?_
  refine m_take (At.mk : At 14) ?_
  refine TA.done (by kernel_rfl) ?_
  refine m_run ?_
  refine TK.sub (Δ := row b9 (bytesV tg) 27 :: Γ) (by (repeat (first | exact List.Sublist.refl _ | apply List.Sublist.cons_cons | apply List.Sublist.cons))) ?_
  by_cases h64 : 64 < key.length
  · refine m_run ?_
    (apply TL.callV; exact rfl; exact callB_of (by kernel_rfl); exact rfl; exact fun _ h => h)
    exact refsum_t A c key _ (has_tls hk) (by omega)
    rintro _ _ ⟨rfl, rfl⟩
    have hL := hashB_len key
    have ho := bs_one (hashB key)
    have hts : tagB (hashB key) msg = tg := (tag_sum h64 msg).trans htg
    generalize hashB key = L at hL ho hts
    (apply TL.alloc; exact rfl; exact tb rfl; exact (by kernel_rfl : _ = List.replicate 32 (Value.int .u8 0)))
    intro b12
    (apply TL.storeAggE 0 (l' := bytesV L); exact rfl; exact rfl; exact rfl; exact (by simpa [allOne] using ho); exact tb rfl; exact (by rw [bytesV_length, hL]; rfl); exact (by rw [bytesV_length, hL]; simp); exact (by rw [List.take_zero, List.nil_append, List.drop_of_length_le (by rw [bytesV_length, hL]; simp), List.append_nil]); exact rfl)
    refine m_run ?_
    refine TK.imp (Δ := row b12 (bytesV L) 27 :: row b9 (bytesV tg) 27 :: Γ) (fun _ h => h) ?_
    refine TK.drawS mixed rfl ?_
    (apply TA.takeA (At.mk : At 0); exact rfl; exact rfl; kernel_rfl; ((focus ((repeat (first | assumption | exact Ent.refl _ | apply Ent.tail)); done))); (apply PV.sliceArr (i := 0) (j := 32); exact rfl; exact tb rfl; exact rfl; exact tb rfl; exact .none; exact .none; exact (by omega); exact (by omega)))
    refine TA.know (t := 54) (v := .slice (some ⟨b12, 0, none⟩) L.length 32) (congrArg (fun z : Nat => Value.slice (some ⟨b12, 0, none⟩) z 32) hL.symm) ?_
    refine m_take (At.mk : At 1) ?_
    (apply TA.takeA (At.mk : At 3); exact rfl; exact rfl; kernel_rfl; ((focus ((repeat (first | assumption | exact Ent.refl _ | apply Ent.tail)); done))); (apply PV.loadAggH; exact rfl; exact tb rfl; exact rfl; exact has_tlg (has_rowAll); exact (by rw [bytesV_length, tgl])))
    (apply TA.one 2; kernel_rfl; exact rfl)
    refine m_rrun ?_
    (apply TL.callV; exact rfl; exact callB_of (by kernel_rfl); exact rfl; exact fun _ h => h)
    exact htag_t (some ⟨b12, 0, none⟩) B 32 c' L msg _ (has_src_row 0 rfl (by rw [bytesV_length, Nat.mul_one])) (by omega) (by omega) (has_tls (has_tls hm)) hmc (by omega) (has_tlg (has_tlg hB)) (has_tlg (has_tlg hK))
    rintro _ _ ⟨rfl, rfl⟩
    rw [hts]
    refine TL.back (by (focus ((repeat (first | assumption | exact Ent.refl _ | apply Ent.tail)); done))) ?_
    (apply TA.takeA (At.mk : At 4); exact rfl; exact rfl; kernel_rfl; ((focus ((repeat (first | assumption | exact Ent.refl _ | apply Ent.tail)); done))); (apply PV.eqBytes; exact rfl; exact rfl; exact tb rfl; exact rfl; exact tb rfl; exact rfl; exact rfl; kernel_rfl; exact tgl; exact tgl))
    refine TA.isT 58 rfl (beq_self_eq_true tg) ?_
    refine m_take (At.mk : At 5) ?_
    (apply TA.one 6; kernel_rfl; exact rfl)
    refine m_rrun ?_
    (apply TL.callV; exact rfl; exact callB_of (by kernel_rfl); exact rfl; exact fun _ h => h)
    exact works3_t _ (has_tlg (has_tlg hB)) (has_tlg (has_tlg hK)) (has_tlc (has_tlc hE))
    rintro _ _ ⟨rfl, rfl⟩
    refine TL.back (by (focus ((repeat (first | assumption | exact Ent.refl _ | apply Ent.tail)); done))) ?_
    refine m_take (At.mk : At 7) ?_; refine m_take (At.mk : At 8) ?_
    refine TA.done (by kernel_rfl) ?_
    refine m_run ?_
    (apply TK.retS1; exact rfl; exact rfl; (exact m_val))
    · exact ⟨_, rfl, rfl, rfl⟩
    · (repeat (first | exact List.Sublist.refl _ | apply List.Sublist.cons_cons | apply List.Sublist.cons))
  · obtain ⟨z, hz⟩ : ∃ z, Nat.min 64 (key.length + more) - key.length = z := ⟨_, rfl⟩
    have hz64 : key.length + z ≤ 64 := by
      have : Nat.min 64 (key.length + more) ≤ 64 := Nat.min_le_left _ _
      omega
    have hzm : ((Nat.min 64 (key.length + more) : Nat) : Int) = key.length + z := by
      have h1 : key.length ≤ Nat.min 64 (key.length + more) := Nat.le_min.2 ⟨by omega, by omega⟩
      omega
    refine m_run ?_
    refine TK.know (t := 13) (v := .int .i64 ((key.length + z : Nat) : Int)) (congrArg (Value.int .i64) (by
      rw [i64_nat (k := more) (by omega), show ((key.length : Int) + (more : Int)) = ((key.length + more : Nat) : Int) by omega, i64_nat (by omega)]
      have h1 : Nat.min 64 (key.length + more) = if 64 ≤ key.length + more then 64 else key.length + more := rfl
      split <;> split at h1 <;> omega)) ?_
    refine TK.drawS mixed rfl ?_
    refine m_take (At.mk : At 1) ?_; refine m_take (At.mk : At 3) ?_; refine m_take (At.mk : At 4) ?_; refine m_take (At.mk : At 5) ?_; refine m_take (At.mk : At 6) ?_
    refine TA.know (t := 74) (v := .int .i64 (z : Int)) (congrArg (Value.int .i64) (by rw [show ((key.length + z : Nat) : Int) - (key.length : Int) = (z : Int) by omega, i64_nat (by omega)])) ?_
    refine m_take (At.mk : At 8) ?_
    (apply TA.takeA (At.mk : At 10); exact rfl; exact rfl; kernel_rfl; ((focus ((repeat (first | assumption | exact Ent.refl _ | apply Ent.tail)); done))); (apply PV.loadAggH; exact rfl; exact tb rfl; exact rfl; exact has_rowAll; exact (by rw [bytesV_length, tgl])))
    (apply TA.one 0; kernel_rfl; exact rfl)
    (apply TL.buildSlice; exact rfl; exact tb rfl; exact rfl; exact tb rfl; exact rfl; exact rfl; exact rfl; exact rfl; (exact m_lst))
    intro b68
    refine TL.back (by (focus ((repeat (first | assumption | exact Ent.refl _ | apply Ent.tail)); done))) ?_
    (apply TA.one 2; kernel_rfl; exact rfl)
    (apply TL.appB 0; exact rfl; exact rfl; exact tb rfl; exact rfl; exact tb rfl; exact rfl; exact rfl; exact rfl; exact rfl; exact fun _ h => bs_row (l := []) rfl rfl (by decide) h; exact rfl; (exact m_hsrc))
    · rw [List.length_nil]; omega
    · exact fun _ => (rfl : _ = _ :: _)
    intro A70 c70 hc70
    rw [List.nil_append] at hc70 ⊢
    refine TL.back (by (focus ((repeat (first | assumption | exact Ent.refl _ | apply Ent.tail)); done))) ?_
    (apply TA.one 7; kernel_rfl; exact rfl)
    (apply TL.appZo (s := (key ++ List.replicate z (0 : UInt8)).length) (cs' := bytesV (key ++ List.replicate z (0 : UInt8))) (k := z) 0; exact rfl; exact rfl; exact tb rfl; exact rfl; exact tb rfl; exact tb rfl; exact rfl; exact rfl; exact (by decide); exact rfl; exact rfl; exact rfl; exact rfl)
    · omega
    · simp
    · rw [bytesV_append, bytesV_zeros]
    · exact fun _ => rfl
    intro A75 c75 hc75
    refine TL.imp (Δ := bsA 5 (.slice A75 (key ++ List.replicate z (0 : UInt8)).length c75) (key ++ List.replicate z (0 : UInt8)) :: row b9 (bytesV tg) 27 :: Γ) (fun _ h => h) ?_
    refine TL.back (by (focus ((repeat (first | assumption | exact Ent.refl _ | apply Ent.tail)); done))) ?_
    (apply TA.one 9; kernel_rfl; exact rfl)
    (apply TL.callV; exact rfl; exact callB_of (by kernel_rfl); exact rfl; exact fun _ h => h)
    exact htag_t A75 B c75 c' (key ++ List.replicate z (0 : UInt8)) msg _ (has_bs 0 rfl) hc75 (by simp; omega) (has_tls (has_tls hm)) hmc (by omega) (has_tlg (has_tlg hB)) (has_tlg (has_tlg hK))
    rintro _ _ ⟨rfl, rfl⟩
    rw [tag_pad hz64, htg]
    refine TL.back (by (focus ((repeat (first | assumption | exact Ent.refl _ | apply Ent.tail)); done))) ?_
    (apply TA.takeA (At.mk : At 11); exact rfl; exact rfl; kernel_rfl; ((focus ((repeat (first | assumption | exact Ent.refl _ | apply Ent.tail)); done))); (apply PV.eqBytes; exact rfl; exact rfl; exact tb rfl; exact rfl; exact tb rfl; exact rfl; exact rfl; kernel_rfl; exact tgl; exact tgl))
    refine TA.isT 79 rfl (beq_self_eq_true tg) ?_
    refine m_take (At.mk : At 12) ?_
    (apply TA.one 13; kernel_rfl; exact rfl)
    refine m_rrun ?_
    (apply TL.callV; exact rfl; exact callB_of (by kernel_rfl); exact rfl; exact fun _ h => h)
    exact works3_t _ (has_tlg (has_tlg hB)) (has_tlg (has_tlg hK)) (has_tlc (has_tlc hE))
    rintro _ _ ⟨rfl, rfl⟩
    refine TL.back (by (focus ((repeat (first | assumption | exact Ent.refl _ | apply Ent.tail)); done))) ?_
    refine m_take (At.mk : At 14) ?_; refine m_take (At.mk : At 15) ?_
    refine TA.done (by kernel_rfl) ?_
    refine m_run ?_
    (apply TK.retS1; exact rfl; exact rfl; (exact m_val))
    · exact ⟨_, rfl, rfl, rfl⟩
    · (repeat (first | exact List.Sublist.refl _ | apply List.Sublist.cons_cons | apply List.Sublist.cons))
end Go.Proofs.YtdookobgkcnncaaDoor.E
