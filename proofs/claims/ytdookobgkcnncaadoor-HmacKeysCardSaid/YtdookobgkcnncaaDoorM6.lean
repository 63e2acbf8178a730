/- hmac: New, (*Mac).Tag, Tag, Same, walked. -/
import Derived.Test.YtdookobgkcnncaaDoorM5
namespace Go.Proofs.YtdookobgkcnncaaDoor.E
open Go Go.RowKit Go.Proofs
attribute [local irreducible] TK TL TQ TA Fn PV
attribute [local irreducible] rounds sched kC comp1 compN rotr hashB hashW
/-- A mac of this key lies here. -/
abbrev macG (b bi bo : Nat) (key : List UInt8) (Γ : List HP) : List HP := row b [.pointer (some ⟨bi, 0, none⟩), .pointer (some ⟨bo, 0, none⟩)] 65 :: stA bi (blkB (keyB key) 54) :: stA bo (blkB (keyB key) 92) :: Γ
set_option maxRecDepth 100000 in
set_option maxHeartbeats 1000000 in
theorem hnew_t (A : Option Addr) (c : Nat) (key : List UInt8) (Γ : List HP) (hs : has Γ (srcAt 1 A key.length (bytesV key))) (hc : key.length ≤ c) (hl : key.length ≤ 1000000000) (hB : gBegin Γ) (hK : gConst Γ) :
    FnV Tryd.prog 23 [.slice A key.length c] Γ fun v Γ' => ∃ b bi bo, v = .pointer (some ⟨b, 0, none⟩) ∧ Γ' = macG b bi bo key Γ := by
  refine Fn.enter Tryd.func23 rfl rfl rfl fun E => ?_
  by_cases h64 : 64 < key.length
  · have hkey : keyB key = hashB key := if_pos h64
    simp only [macG, hkey]
    refine m_run ?_
    (apply TL.buildSlice; exact rfl; exact tb rfl; exact rfl; exact tb rfl; exact rfl; exact rfl; exact rfl; exact rfl; (exact m_lst))
    intro b1
    refine m_run ?_
    (apply TL.callV; exact rfl; exact callB_of (by kernel_rfl); exact rfl; exact fun _ h => h)
    exact shasum_t (some ⟨b1, 0, none⟩) 1 [⟨A, c, key⟩] _ (has_src_row 0 rfl rfl) (fun x h => by
      simp only [List.mem_cons, List.not_mem_nil, or_false] at h
      subst h
      exact has_tls hs) (fun x h => by
      simp only [List.mem_cons, List.not_mem_nil, or_false] at h
      subst h
      exact hc) (by rw [flat1]; omega) (show 1 ≤ 1000000000 by decide) (has_tlg hB) (has_tlg hK)
    rintro _ _ ⟨rfl, rfl⟩
    rw [flat1]
    have hL := hashB_len key
    have ho := bs_one (hashB key)
    generalize hashB key = L at hL ho
    (apply TL.alloc; exact rfl; exact tb rfl; exact (by kernel_rfl : _ = List.replicate 32 (Value.int .u8 0)))
    intro b3
    (apply TL.storeAggE 0 (l' := bytesV L); exact rfl; exact rfl; exact rfl; exact (by simpa [allOne] using ho); exact tb rfl; exact (by rw [bytesV_length, hL]; rfl); exact (by rw [bytesV_length, hL]; simp); exact (by rw [List.take_zero, List.nil_append, List.drop_of_length_le (by rw [bytesV_length, hL]; simp), List.append_nil]); exact rfl)
    refine m_run ?_
    (apply TL.pv; exact rfl; (apply PV.sliceArr (i := 0) (j := 32); exact rfl; exact tb rfl; exact rfl; exact tb rfl; exact .none; exact .none; exact (by omega); exact (by omega)))
    refine TL.know (t := 10) (v := .slice (some ⟨b3, 0, none⟩) L.length 32) (congrArg (fun z : Nat => Value.slice (some ⟨b3, 0, none⟩) z 32) hL.symm) ?_
    refine m_run ?_
    (apply TL.callV; exact rfl; exact callB_of (by kernel_rfl); exact rfl; exact fun _ h => h)
    exact begun_t (some ⟨b3, 0, none⟩) 32 L 54 (by decide) _ (has_src_row 0 rfl (by rw [bytesV_length, Nat.mul_one])) (by omega) (has_tlg (has_tlg hB)) (has_tlg (has_tlg hK))
    rintro _ _ ⟨bi, rfl, rfl⟩
    refine m_run ?_
    (apply TL.callV; exact rfl; exact callB_of (by kernel_rfl); exact rfl; exact fun _ h => h)
    exact begun_t (some ⟨b3, 0, none⟩) 32 L 92 (by decide) _ (has_src_row 1 rfl (by rw [bytesV_length, Nat.mul_one])) (by omega) (has_tlg (has_tlg (has_tlg hB))) (has_tlg (has_tlg (has_tlg hK)))
    rintro _ _ ⟨bo, rfl, rfl⟩
    (apply TL.build tabs; exact rfl; exact rfl; exact rfl; exact rfl; exact rfl; exact rfl; exact (rfl : _ = [_, _]))
    (apply TL.box; exact rfl; exact rfl; exact (rfl : _ = [_, _]))
    intro b
    refine m_run ?_
    refine TK.perm (List.Perm.cons _ (List.Perm.swap _ _ _)) ?_
    (apply TK.retS1; exact rfl; exact rfl; (exact m_val))
    · exact ⟨_, rfl, b, bi, bo, rfl, rfl⟩
    · (repeat (first | exact List.Sublist.refl _ | apply List.Sublist.cons_cons | apply List.Sublist.cons))
  · have hkey : keyB key = key := if_neg h64
    simp only [macG, hkey]
    refine m_run ?_
    (apply TL.callV; exact rfl; exact callB_of (by kernel_rfl); exact rfl; exact fun _ h => h)
    exact begun_t A c key 54 (by decide) _ hs (by omega) hB hK
    rintro _ _ ⟨bi, rfl, rfl⟩
    refine m_run ?_
    (apply TL.callV; exact rfl; exact callB_of (by kernel_rfl); exact rfl; exact fun _ h => h)
    exact begun_t A c key 92 (by decide) _ (has_tls hs) (by omega) (has_tlg hB) (has_tlg hK)
    rintro _ _ ⟨bo, rfl, rfl⟩
    (apply TL.build tabs; exact rfl; exact rfl; exact rfl; exact rfl; exact rfl; exact rfl; exact (rfl : _ = [_, _]))
    (apply TL.box; exact rfl; exact rfl; exact (rfl : _ = [_, _]))
    intro b
    refine m_run ?_
    refine TK.perm (List.Perm.cons _ (List.Perm.swap _ _ _)) ?_
    (apply TK.ret1; exact rfl; exact rfl; (exact m_val))
    exact ⟨_, rfl, b, bi, bo, rfl, rfl⟩
set_option maxRecDepth 100000 in
set_option maxHeartbeats 1000000 in
theorem mtag_t (b bi bo : Nat) (key : List UInt8) (A : Option Addr) (c : Nat) (ss : List (Sl UInt8)) (Γ : List HP) (hs : has Γ (srcAt 1 A ss.length (ss.map Sl.v))) (hss : ∀ s ∈ ss, has Γ (srcAt 1 s.A s.l.length (bytesV s.l))) (hcap : ∀ s ∈ ss, s.l.length ≤ s.c) (hlen : (flatS ss).length ≤ 100000000) (hn : ss.length ≤ 1000000000) (hK : gConst Γ) :
    FnV Tryd.prog 25 [.pointer (some ⟨b, 0, none⟩), .slice A ss.length c] (macG b bi bo key Γ) fun v Γ' => v = .agg (bytesV (tagB key (flatS ss))).toArray ∧ Γ' = macG b bi bo key Γ := by
  refine Fn.enter Tryd.func25 rfl rfl rfl fun E => ?_
  obtain ⟨X, hX⟩ : ∃ X, blkB (keyB key) 54 = X := ⟨_, rfl⟩
  obtain ⟨Y, hY⟩ : ∃ Y, blkB (keyB key) 92 = Y := ⟨_, rfl⟩
  have hXl : X.length = 64 := by rw [← hX]; exact blkB_len _ (keyB_len key)
  have hYl : Y.length = 64 := by rw [← hY]; exact blkB_len _ (keyB_len key)
  have htag : tagB key (flatS ss) = hashB (Y ++ hashB (X ++ flatS ss)) := by rw [tagB, innerB, hX, hY]
  rw [macG, htag, hX, hY]
  clear htag hX hY
  refine m_run ?_
  (apply TL.alloc; exact rfl; exact tb rfl; exact (by kernel_rfl : _ = List.replicate 32 (Value.int .u8 0)))
  intro b4
  refine m_run ?_
  refine TK.drawS mixed rfl ?_
  refine m_take (At.mk : At 0) ?_; refine m_take (At.mk : At 1) ?_; refine m_take (At.mk : At 2) ?_; refine m_take (At.mk : At 3) ?_; refine m_take (At.mk : At 5) ?_; refine m_take (At.mk : At 6) ?_; refine m_take (At.mk : At 7) ?_; refine m_take (At.mk : At 8) ?_
  (apply TA.one 4; kernel_rfl; exact rfl)
  (apply TL.callV (Δ := stA bi X :: row b4 (List.replicate 32 (Value.int .u8 0)) 27 :: row b [.pointer (some ⟨bi, 0, none⟩), .pointer (some ⟨bo, 0, none⟩)] 65 :: stA bo Y :: Γ); exact rfl; exact callB_of (by kernel_rfl); exact rfl; exact fun _ h => all_perm (List.Perm.append_right (stA bo Y :: Γ) (List.perm_append_comm (l₁ := [_, _]) (l₂ := [_]))) h)
  exact fork_t bi X _
  rintro _ _ ⟨b5, rfl, rfl⟩
  refine TL.perm (Δ := stA b5 X :: row b4 (List.replicate 32 (Value.int .u8 0)) 27 :: row b [.pointer (some ⟨bi, 0, none⟩), .pointer (some ⟨bo, 0, none⟩)] 65 :: stA bi X :: stA bo Y :: Γ) (List.Perm.cons _ (List.Perm.append_right (stA bo Y :: Γ) (List.perm_append_comm (l₁ := [_]) (l₂ := [_, _])))) ?_
  refine TL.back (by (focus ((repeat (first | assumption | exact Ent.refl _ | apply Ent.tail)); done))) ?_
  (apply TA.one 9; kernel_rfl; exact rfl)
  (apply TL.callV (Δ := stA bo Y :: stA b5 X :: row b4 (List.replicate 32 (Value.int .u8 0)) 27 :: row b [.pointer (some ⟨bi, 0, none⟩), .pointer (some ⟨bo, 0, none⟩)] 65 :: stA bi X :: Γ); exact rfl; exact callB_of (by kernel_rfl); exact rfl; exact fun _ h => all_perm (List.Perm.append_right Γ (List.perm_append_comm (l₁ := [_, _, _, _]) (l₂ := [_]))) h)
  exact fork_t bo Y _
  rintro _ _ ⟨b6, rfl, rfl⟩
  refine TL.perm (Δ := stA b6 Y :: stA b5 X :: row b4 (List.replicate 32 (Value.int .u8 0)) 27 :: row b [.pointer (some ⟨bi, 0, none⟩), .pointer (some ⟨bo, 0, none⟩)] 65 :: stA bi X :: stA bo Y :: Γ) (List.Perm.cons _ (List.Perm.append_right Γ (List.perm_append_comm (l₁ := [_]) (l₂ := [_, _, _, _])))) ?_
  refine TL.back (by (focus ((repeat (first | assumption | exact Ent.refl _ | apply Ent.tail)); done))) ?_
  refine m_take (At.mk : At 10) ?_; refine m_take (At.mk : At 11) ?_
  refine TA.done (by kernel_rfl) ?_
  obtain ⟨R0, hR0⟩ : ∃ R0, row b4 (List.replicate 32 (Value.int .u8 0)) 27 :: row b [.pointer (some ⟨bi, 0, none⟩), .pointer (some ⟨bo, 0, none⟩)] 65 :: stA bi X :: stA bo Y :: Γ = R0 := ⟨_, rfl⟩
  have hsR : has R0 (srcAt 1 A ss.length (ss.map Sl.v)) := by rw [← hR0]; exact has_tls (has_tls (has_tls (has_tls hs)))
  have hssR : ∀ s ∈ ss, has R0 (srcAt 1 s.A s.l.length (bytesV s.l)) := fun s h => by rw [← hR0]; exact has_tls (has_tls (has_tls (has_tls (hss s h))))
  have hKR : gConst R0 := by rw [← hR0]; exact has_tlg (has_tlg (has_tlg (has_tlg hK)))
  rw [hR0]
  clear hs hss hK
  refine TK.perm (List.Perm.swap _ _ _) ?_
  refine m_run ?_
  apply TK.iter (fun j ρ' Γ' => ∃ i : Nat, i + j = ss.length ∧ lk ρ' 4 = .pointer (some ⟨b4, 0, none⟩) ∧ lk ρ' 5 = .pointer (some ⟨b5, 0, none⟩) ∧ lk ρ' 6 = .pointer (some ⟨b6, 0, none⟩) ∧ lk ρ' 23 = .slice A ss.length c ∧ lk ρ' 24 = .int .i64 (ss.length : Int) ∧ lk ρ' 25 = .int .i64 (i : Int) ∧ Γ' = stA b5 (X ++ flatS (ss.take i)) :: stA b6 Y :: R0) ss.length
  · exact ⟨0, Nat.zero_add _, rfl, rfl, rfl, rfl, rfl, rfl, by simp [flatS]⟩
  rintro j IH ρ' _ ⟨i, hij, e4, e5, e6, e23, e24, e25, rfl⟩
  refine TK.know6 e4 e5 e6 e23 e24 e25 ?_
  by_cases hi : i < ss.length
  · obtain ⟨s, hsi⟩ : ∃ s, ss[i]? = some s := ⟨ss[i], by simp [hi]⟩
    have hmem := List.mem_of_getElem? hsi
    refine TK.mem fun m0 hm0 => ?_
    obtain ⟨b0, o0, rfl⟩ := src_some (has_tls (has_tls hsR) m0 hm0) (by rw [List.length_map]; omega)
    clear hm0 m0
    have hcell := has_get hsR (slsV_get hsi)
    have hl1 := flatS_len ss (i + 1)
    rw [flatS_take hsi, List.length_append] at hl1
    have hl0 := flatS_len ss i
    refine m_run ?_
    (apply TL.callV; exact rfl; exact callB_of (by kernel_rfl); exact rfl; exact fun _ h => h)
    exact write_t b5 (X ++ flatS (ss.take i)) s.l s.A s.c (stA b6 Y :: R0) (has_tls (hssR s hmem)) (hcap s hmem) (by rw [List.length_append]; omega) (has_tlg hKR)
    rintro _ _ ⟨rfl, rfl⟩
    refine m_run ?_
    exact IH (j - 1) _ _ (by omega) ⟨i + 1, by omega, rfl, rfl, rfl, rfl, rfl, congrArg (Value.int .i64) (i64_succ i (by omega)), by rw [flatS_take hsi, List.append_assoc]⟩
  obtain rfl : i = ss.length := by omega
  rw [List.take_length]
  clear IH e4 e5 e6 e23 e24 e25
  refine m_run ?_
  (apply TL.callV; exact rfl; exact callB_of (by kernel_rfl); exact rfl; exact fun _ h => h)
  exact sum_t b5 (X ++ flatS ss) (stA b6 Y :: R0) (by rw [List.length_append]; omega) (has_tlg hKR)
  rintro _ _ ⟨rfl, rfl⟩
  have hL := hashB_len (X ++ flatS ss)
  have ho := bs_one (hashB (X ++ flatS ss))
  generalize hashB (X ++ flatS ss) = L at hL ho
  (apply TL.alloc; exact rfl; exact tb rfl; exact (by kernel_rfl : _ = List.replicate 32 (Value.int .u8 0)))
  intro b9
  (apply TL.storeAggE 0 (l' := bytesV L); exact rfl; exact rfl; exact rfl; exact (by simpa [allOne] using ho); exact tb rfl; exact (by rw [bytesV_length, hL]; rfl); exact (by rw [bytesV_length, hL]; simp); exact (by rw [List.take_zero, List.nil_append, List.drop_of_length_le (by rw [bytesV_length, hL]; simp), List.append_nil]); exact rfl)
  refine m_run ?_
  (apply TL.pv; exact rfl; (apply PV.sliceArr (i := 0) (j := 32); exact rfl; exact tb rfl; exact rfl; exact tb rfl; exact .none; exact .none; exact (by omega); exact (by omega)))
  refine TL.know (t := 36) (v := .slice (some ⟨b9, 0, none⟩) L.length 32) (congrArg (fun z : Nat => Value.slice (some ⟨b9, 0, none⟩) z 32) hL.symm) ?_
  (apply TL.callV (Δ := stA b6 Y :: row b9 (bytesV L) 27 :: stA b5 (X ++ flatS ss) :: R0); exact rfl; exact callB_of (by kernel_rfl); exact rfl; exact fun _ h => all_perm (List.Perm.append_right R0 (List.perm_append_comm (l₁ := [_, _]) (l₂ := [_]))) h)
  exact write_t b6 Y L (some ⟨b9, 0, none⟩) 32 _ (has_src_row 0 rfl (by rw [bytesV_length, Nat.mul_one])) (by omega) (by omega) (has_tlg (has_tlg hKR))
  rintro _ _ ⟨rfl, rfl⟩
  refine m_run ?_
  (apply TL.callV; exact rfl; exact callB_of (by kernel_rfl); exact rfl; exact fun _ h => h)
  exact sum_t b6 (Y ++ L) _ (by rw [List.length_append]; omega) (has_tlg (has_tlg hKR))
  rintro _ _ ⟨rfl, rfl⟩
  have hL2 := hashB_len (Y ++ L)
  have ho2 := bs_one (hashB (Y ++ L))
  rw [← hR0]
  generalize hashB (Y ++ L) = M at hL2 ho2
  (apply TL.storeAggE 3 (l' := bytesV M); exact rfl; exact rfl; exact rfl; exact (by simpa [allOne] using ho2); exact tb rfl; exact (by rw [bytesV_length, hL2]; rfl); exact (by rw [bytesV_length, hL2]; simp); exact (by rw [List.take_zero, List.nil_append, List.drop_of_length_le (by rw [bytesV_length, hL2]; simp), List.append_nil]); exact rfl)
  refine m_run ?_
  (apply TK.retRow (i := 3) (vs := bytesV M); exact rfl; exact rfl; exact rfl; exact rfl; exact tb rfl; exact rfl; exact (by rw [List.drop_zero]; exact List.take_of_length_le (by rw [bytesV_length, hL2]; decide)); exact (by rw [bytesV_length, hL2]; rfl))
  · exact ⟨_, rfl, rfl, rfl⟩
  · (repeat (first | exact List.Sublist.refl _ | apply List.Sublist.cons_cons | apply List.Sublist.cons))
set_option maxRecDepth 100000 in
set_option maxHeartbeats 1000000 in
theorem htag_t (A B : Option Addr) (c c' : Nat) (key msg : List UInt8) (Γ : List HP) (hs : has Γ (srcAt 1 A key.length (bytesV key))) (hc : key.length ≤ c) (hl : key.length ≤ 1000000000) (hm : has Γ (srcAt 1 B msg.length (bytesV msg))) (hc' : msg.length ≤ c') (hl' : msg.length ≤ 100000000) (hB : gBegin Γ) (hK : gConst Γ) :
    FnV Tryd.prog 24 [.slice A key.length c, .slice B msg.length c'] Γ fun v Γ' => v = .agg (bytesV (tagB key msg)).toArray ∧ Γ' = Γ := by
  refine Fn.enter Tryd.func24 rfl rfl rfl fun E => ?_
  refine m_run ?_
  (apply TL.alloc; exact rfl; exact tb rfl; exact (by kernel_rfl : _ = List.replicate 32 (Value.int .u8 0)))
  intro b4
  refine m_run ?_
  (apply TL.callV; exact rfl; exact callB_of (by kernel_rfl); exact rfl; exact fun _ h => h)
  exact hnew_t A c key _ (has_tls hs) hc hl (has_tlg hB) (has_tlg hK)
  rintro _ _ ⟨b, bi, bo, rfl, rfl⟩
  refine m_run ?_
  (apply TL.buildSlice; exact rfl; exact tb rfl; exact rfl; exact tb rfl; exact rfl; exact rfl; exact rfl; exact rfl; (exact m_lst))
  intro b8
  refine m_run ?_
  (apply TL.callV (Δ := macG b bi bo key (row b8 [.slice B msg.length c'] 30 :: row b4 (List.replicate 32 (Value.int .u8 0)) 27 :: Γ)); exact rfl; exact callB_of (by kernel_rfl); exact rfl; exact fun _ h => all_perm (List.Perm.append_right (row b4 (List.replicate 32 (Value.int .u8 0)) 27 :: Γ) (List.perm_append_comm (l₁ := [_]) (l₂ := [_, _, _]))) h)
  exact mtag_t b bi bo key (some ⟨b8, 0, none⟩) 1 [⟨B, c', msg⟩] _ (has_src_row 0 rfl rfl) (fun x h => by
    simp only [List.mem_cons, List.not_mem_nil, or_false] at h
    subst h
    exact has_tls (has_tls hm)) (fun x h => by
    simp only [List.mem_cons, List.not_mem_nil, or_false] at h
    subst h
    exact hc') (by rw [flat1]; exact hl') (show 1 ≤ 1000000000 by decide) (has_tlg (has_tlg hK))
  rintro _ _ ⟨rfl, rfl⟩
  rw [flat1]
  have hL2 : (tagB key msg).length = 32 := hashB_len _
  have ho2 := bs_one (tagB key msg)
  generalize tagB key msg = M at hL2 ho2
  (apply TL.storeAggE 4 (l' := bytesV M); exact rfl; exact rfl; exact rfl; exact (by simpa [allOne] using ho2); exact tb rfl; exact (by rw [bytesV_length, hL2]; rfl); exact (by rw [bytesV_length, hL2]; simp); exact (by rw [List.take_zero, List.nil_append, List.drop_of_length_le (by rw [bytesV_length, hL2]; simp), List.append_nil]); exact rfl)
  refine m_run ?_
  (apply TK.retRow (i := 4) (vs := bytesV M); exact rfl; exact rfl; exact rfl; exact rfl; exact tb rfl; exact rfl; exact (by rw [List.drop_zero]; exact List.take_of_length_le (by rw [bytesV_length, hL2]; decide)); exact (by rw [bytesV_length, hL2]; rfl))
  · exact ⟨_, rfl, rfl, rfl⟩
  · (repeat (first | exact List.Sublist.refl _ | apply List.Sublist.cons_cons | apply List.Sublist.cons))
end Go.Proofs.YtdookobgkcnncaaDoor.E
