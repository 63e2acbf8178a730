/- The document's HMAC: Block, with, Tag, walked. -/
import Derived.Test.YtdookobgkcnncaaDoorM5
import Derived.Test.YtdookobgkcnncaaDoorJ5
namespace Go.Proofs.YtdookobgkcnncaaDoor.E
open Go Go.RowKit Go.Proofs
attribute [local irreducible] TK TL TQ TA Fn PV
attribute [local irreducible] rounds sched kC comp1 compN rotr hashB hashW
set_option maxRecDepth 100000 in
set_option maxHeartbeats 1000000 in
theorem with_t (A : Option Addr) (c : Nat) (l : List UInt8) (k : Nat) (hk : k < 256) (Γ : List HP) (hs : has Γ (srcAt 1 A l.length (bytesV l))) (hl : l.length ≤ 1000000000) :
    FnV Tryd.prog 33 [.slice A l.length c, .int .u8 (k : Int)] Γ (RB 5 Γ (l.map (xorB k))) := by
  refine Fn.enter Tryd.func33 rfl rfl rfl fun E => ?_
  refine m_run ?_
  refine TK.free (H := bsA 5 (.slice none 0 0) []) (fun m h => bs_nil _ h) ?_
  apply TK.iter (fun j ρ' Γ' => ∃ (i : Nat) (A' : Option Addr) (k' : Nat), i + j = l.length ∧ lk ρ' 0 = .slice A l.length c ∧ lk ρ' 1 = .int .u8 (k : Int) ∧ lk ρ' 5 = .slice A' ((l.take i).map (xorB k)).length k' ∧ ((l.take i).map (xorB k)).length ≤ k' ∧ lk ρ' 6 = .int .i64 (i : Int) ∧ Γ' = bsA 5 (.slice A' ((l.take i).map (xorB k)).length k') ((l.take i).map (xorB k)) :: Γ) l.length
  · exact ⟨0, none, 0, Nat.zero_add _, rfl, rfl, rfl, Nat.le_refl _, rfl, rfl⟩
  rintro j IH ρ' _ ⟨i, A1, k1, hij, e0, e1, e5, hk1, e6, rfl⟩
  refine TK.know4 e0 e1 e5 e6 ?_
  by_cases hi : i < l.length
  · obtain ⟨ch, hch⟩ : ∃ ch, l[i]? = some ch := ⟨l[i], by simp [hi]⟩
    refine TK.mem fun m0 hm0 => ?_
    obtain ⟨b2, o2, rfl⟩ := src_some (has_tls hs m0 hm0) (by rw [bytesV_length]; omega)
    clear hm0 m0
    have hcell := has_byte hs hch
    obtain ⟨X, hX⟩ : ∃ X, (l.take i).map (xorB k) = X := ⟨_, rfl⟩
    have hXl : X.length ≤ 1000000000 := by rw [← hX, List.length_map, List.length_take]; omega
    have hXn : (l.take (i + 1)).map (xorB k) = X ++ [xorB k ch] := by rw [List.take_add_one, hch, List.map_append, hX]; rfl
    rw [hX] at hk1 ⊢
    refine m_run ?_
    refine TL.know (t := 19) (v := .int .u8 ((xorB k ch).toNat : Int)) (congrArg (Value.int .u8) (xor_b8 ch k hk)) ?_
    (apply TL.buildSlice; exact rfl; exact tb rfl; exact rfl; exact tb rfl; exact rfl; exact rfl; exact rfl; exact rfl; (exact m_lst))
    intro b3
    refine m_run ?_
    (apply TL.appB (s := [ xorB k ch]) 1; exact rfl; exact rfl; exact tb rfl; exact rfl; exact tb rfl; exact rfl; exact rfl; exact rfl; exact rfl; exact fun _ h => h; exact rfl; exact has_src_row 0 rfl rfl)
    · simp only [List.length_singleton]; omega
    · exact fun _ => (rfl : _ = _ :: _ :: _)
    intro A2 k2 hk2
    rw [← hXn] at hk2 ⊢
    refine m_run ?_
    refine TK.sub (Δ := bsA 5 (.slice A2 ((l.take (i + 1)).map (xorB k)).length k2) ((l.take (i + 1)).map (xorB k)) :: Γ) (by (repeat (first | exact List.Sublist.refl _ | apply List.Sublist.cons_cons | apply List.Sublist.cons))) ?_
    exact IH (j - 1) _ _ (by omega) ⟨i + 1, A2, k2, by omega, rfl, rfl, rfl, hk2, congrArg (Value.int .i64) (i64_succ i (by omega)), rfl⟩
  obtain rfl : i = l.length := by omega
  rw [List.take_length] at hk1 ⊢
  refine m_run ?_
  (apply TK.ret1; exact rfl; exact rfl; (exact m_val))
  exact ⟨_, rfl, A1, k1, rfl, hk1, rfl⟩
set_option maxRecDepth 100000 in
set_option maxHeartbeats 1000000 in
theorem block_t (A : Option Addr) (c : Nat) (key : List UInt8) (Γ : List HP) (hs : has Γ (srcAt 1 A key.length (bytesV key))) (hl : key.length ≤ 100000000) :
    FnV Tryd.prog 34 [.slice A key.length c] Γ (RB 5 Γ (fill64 (keyB key))) := by
  refine Fn.enter Tryd.func34 rfl rfl rfl fun E => ?_
  have hKl := keyB_len key
  obtain ⟨K, hKey⟩ : ∃ K, keyB key = K := ⟨_, rfl⟩
  rw [hKey] at hKl ⊢
  refine m_run ?_
  (apply TL.buildSlice; exact rfl; exact tb rfl; exact rfl; exact tb rfl; exact rfl; exact rfl; exact rfl; exact rfl; (exact m_lst))
  intro b1
  refine m_run ?_
  (apply TL.appB 0; exact rfl; exact rfl; exact tb rfl; exact rfl; exact tb rfl; exact rfl; exact rfl; exact rfl; exact rfl; exact fun _ h => bs_row (l := []) rfl rfl (by decide) h; exact rfl; (exact m_hsrc))
  · rw [List.length_nil]; omega
  · exact fun _ => (rfl : _ = _ :: _)
  intro A1 c1 hc1
  rw [List.nil_append] at hc1 ⊢
  refine m_run ?_
  refine TK.cut (I := fun ρ' Γ' => ∃ A3 c3, K.length ≤ c3 ∧ lk ρ' 3 = .slice A3 K.length c3 ∧ Γ' = bsA 5 (.slice A3 K.length c3) K :: Γ) ?_ ?_
  · intro k' hjoin
    by_cases h64 : 64 < key.length
    · have hkey : hashB key = K := by rw [← hKey]; exact (if_pos h64).symm
      refine m_run ?_
      (apply TL.callV; exact rfl; exact callB_of (by kernel_rfl); exact rfl; exact fun _ h => h)
      exact refsum_t A c key _ (has_tls hs) (by omega)
      rintro _ _ ⟨rfl, rfl⟩
      have hL := hashB_len key
      have ho := bs_one (hashB key)
      rw [hkey] at hL ho ⊢
      (apply TL.alloc; exact rfl; exact tb rfl; exact (by kernel_rfl : _ = List.replicate 32 (Value.int .u8 0)))
      intro b4
      (apply TL.storeAggE 0 (l' := bytesV K); exact rfl; exact rfl; exact rfl; exact (by simpa [allOne] using ho); exact tb rfl; exact (by rw [bytesV_length, hL]; rfl); exact (by rw [bytesV_length, hL]; simp); exact (by rw [List.take_zero, List.nil_append, List.drop_of_length_le (by rw [bytesV_length, hL]; simp), List.append_nil]); exact rfl)
      refine m_run ?_
      (apply TL.buildSlice; exact rfl; exact tb rfl; exact rfl; exact tb rfl; exact rfl; exact rfl; exact rfl; exact rfl; (exact m_lst))
      intro b5
      (apply TL.pv; exact rfl; (apply PV.sliceArr (i := 0) (j := 32); exact rfl; exact tb rfl; exact rfl; exact tb rfl; exact .none; exact .none; exact (by omega); exact (by omega)))
      refine TL.know (t := 14) (v := .slice (some ⟨b4, 0, none⟩) K.length 32) (congrArg (fun z : Nat => Value.slice (some ⟨b4, 0, none⟩) z 32) hL.symm) ?_
      have hsrc : has (row b4 (bytesV K) 27 :: bsA 5 (.slice A1 key.length c1) key :: Γ) (srcAt 1 (some ⟨b4, 0, none⟩) K.length (bytesV K)) := has_src_row 0 rfl (by rw [bytesV_length, Nat.mul_one])
      (apply TL.appB 0; exact rfl; exact rfl; exact tb rfl; exact rfl; exact tb rfl; exact rfl; exact rfl; exact rfl; exact rfl; exact fun _ h => bs_row (l := []) rfl rfl (by decide) h; exact rfl; (exact m_hsrc))
      · rw [List.length_nil]; omega
      · exact fun _ => (rfl : _ = _ :: _)
      intro A6 c6 hc6
      rw [List.nil_append] at hc6 ⊢
      refine m_run ?_
      refine TK.sub (Δ := bsA 5 (.slice A6 K.length c6) K :: Γ) (by (repeat (first | exact List.Sublist.refl _ | apply List.Sublist.cons_cons | apply List.Sublist.cons))) ?_
      refine hjoin _ _ ?_
      exact ⟨A6, c6, hc6, rfl, rfl⟩
    · obtain rfl : key = K := by rw [← hKey]; exact (if_neg h64).symm
      refine m_run ?_
      refine hjoin _ _ ?_
      exact ⟨A1, c1, hc1, rfl, rfl⟩
  rintro ρ1 _ ⟨A3, c3, hc3, e3, rfl⟩
  generalize K = L at hc3 e3 hKl
  refine m_run ?_
  apply TK.iter (fun j ρ' Γ' => ∃ (z : Nat) (A' : Option Addr) (c' : Nat), z + j = 64 - L.length ∧ lk ρ' 3 = .slice A' (L ++ List.replicate z 0).length c' ∧ (L ++ List.replicate z (0 : UInt8)).length ≤ c' ∧ Γ' = bsA 5 (.slice A' (L ++ List.replicate z 0).length c') (L ++ List.replicate z 0) :: Γ) (64 - L.length)
  · refine ⟨0, A3, c3, Nat.zero_add _, ?_, ?_, ?_⟩ <;> simp only [List.replicate_zero, List.append_nil]
    · exact e3
    · exact hc3
  clear e3 hc3
  rintro j IH ρ' _ ⟨z, A4, c4, hz, e3, hc4, rfl⟩
  refine TK.know (t := 3) e3 ?_
  have hXl : (L ++ List.replicate z (0 : UInt8)).length = L.length + z := by simp
  by_cases h0 : z < 64 - L.length
  · rw [hXl] at hc4
    refine m_run ?_
    refine TL.know (t := 17) (v := .int .i64 ((L.length + z : Nat) : Int)) (congrArg (fun z : Nat => Value.int .i64 (z : Int)) hXl) ?_
    refine m_run ?_
    (apply TL.buildSlice; exact rfl; exact tb rfl; exact rfl; exact tb rfl; exact rfl; exact rfl; exact rfl; exact rfl; (exact m_lst))
    intro b3
    refine m_run ?_
    (apply TL.appB (s := [ 0]) 1; exact rfl; exact rfl; exact tb rfl; exact rfl; exact tb rfl; exact rfl; exact rfl; exact rfl; exact rfl; exact fun _ h => h; exact rfl; exact has_src_row 0 rfl rfl)
    · rw [hXl]; simp only [List.length_singleton]; omega
    · exact fun _ => (rfl : _ = _ :: _ :: _)
    intro A5 c5 hc5
    have hX2 : L ++ List.replicate z (0 : UInt8) ++ [0] = L ++ List.replicate (z + 1) 0 := by rw [List.append_assoc _ _ [0], ← List.replicate_succ']
    rw [hX2] at hc5 ⊢
    refine m_run ?_
    refine TK.sub (Δ := bsA 5 (.slice A5 (L ++ List.replicate (z + 1) 0).length c5) (L ++ List.replicate (z + 1) 0) :: Γ) (by (repeat (first | exact List.Sublist.refl _ | apply List.Sublist.cons_cons | apply List.Sublist.cons))) ?_
    exact IH (j - 1) _ _ (by omega) ⟨z + 1, A5, c5, by omega, rfl, hc5, rfl⟩
  obtain rfl : z = 64 - L.length := by omega
  have hf : L ++ List.replicate (64 - L.length) (0 : UInt8) = fill64 L := rfl
  have hfl := fill64_len hKl
  rw [hf] at hc4 ⊢
  generalize fill64 L = M at hc4 hfl
  clear IH e3 hXl hf
  refine m_run ?_
  (apply TK.ret1; exact rfl; exact rfl; (exact m_val))
  exact ⟨_, rfl, A4, c4, rfl, hc4, rfl⟩
set_option maxRecDepth 100000 in
set_option maxHeartbeats 1000000 in
theorem reftag_t (A B : Option Addr) (c c' : Nat) (key msg : List UInt8) (Γ : List HP) (hs : has Γ (srcAt 1 A key.length (bytesV key))) (hl : key.length ≤ 100000000) (hm : has Γ (srcAt 1 B msg.length (bytesV msg))) (hl' : msg.length ≤ 100000000) :
    FnV Tryd.prog 22 [.slice A key.length c, .slice B msg.length c'] Γ fun v Γ' => v = .agg (bytesV (tagB key msg)).toArray ∧ Γ' = Γ := by
  refine Fn.enter Tryd.func22 rfl rfl rfl fun E => ?_
  have hXl : (blkB (keyB key) 54).length = 64 := blkB_len _ (keyB_len key)
  have hYl : (blkB (keyB key) 92).length = 64 := blkB_len _ (keyB_len key)
  have hFl := fill64_len (keyB_len key)
  have htag : tagB key msg = hashB (blkB (keyB key) 92 ++ hashB (blkB (keyB key) 54 ++ msg)) := rfl
  have hX : blkB (keyB key) 54 = (fill64 (keyB key)).map (xorB 54) := rfl
  have hY : blkB (keyB key) 92 = (fill64 (keyB key)).map (xorB 92) := rfl
  rw [htag]
  refine m_run ?_
  (apply TL.alloc; exact rfl; exact tb rfl; exact (by kernel_rfl : _ = List.replicate 32 (Value.int .u8 0)))
  intro b4
  refine m_run ?_
  (apply TL.callV; exact rfl; exact callB_of (by kernel_rfl); exact rfl; exact fun _ h => h)
  exact block_t A c key _ (has_tls hs) hl
  rintro _ _ ⟨A7, c7, rfl, hc7, rfl⟩
  (apply TL.callV; exact rfl; exact callB_of (by kernel_rfl); exact rfl; exact fun _ h => h)
  exact with_t A7 c7 (fill64 (keyB key)) 54 (by decide) _ (has_bs 0 rfl) (by omega)
  rintro _ _ ⟨A8, c8, rfl, hc8, rfl⟩
  rw [← hX] at hc8 ⊢
  generalize blkB (keyB key) 54 = X at hc8 hXl
  refine m_run ?_
  (apply TL.appB 0; exact rfl; exact rfl; exact tb rfl; exact rfl; exact tb rfl; exact rfl; exact rfl; exact rfl; exact rfl; exact fun _ h => h; exact rfl; (exact m_hsrc))
  · omega
  · exact fun _ => (rfl : _ = _ :: _)
  intro A10 c10 hc10
  refine m_run ?_
  (apply TL.callV; exact rfl; exact callB_of (by kernel_rfl); exact rfl; exact fun _ h => h)
  exact refsum_t A10 c10 (X ++ msg) _ (has_bs 0 rfl) (by rw [List.length_append]; omega)
  rintro _ _ ⟨rfl, rfl⟩
  have hL := hashB_len (X ++ msg)
  have ho := bs_one (hashB (X ++ msg))
  generalize hashB (X ++ msg) = L at hL ho
  (apply TL.alloc; exact rfl; exact tb rfl; exact (by kernel_rfl : _ = List.replicate 32 (Value.int .u8 0)))
  intro b5
  (apply TL.storeAggE 0 (l' := bytesV L); exact rfl; exact rfl; exact rfl; exact (by simpa [allOne] using ho); exact tb rfl; exact (by rw [bytesV_length, hL]; rfl); exact (by rw [bytesV_length, hL]; simp); exact (by rw [List.take_zero, List.nil_append, List.drop_of_length_le (by rw [bytesV_length, hL]; simp), List.append_nil]); exact rfl)
  refine m_run ?_
  refine TK.sub (Δ := row b5 (bytesV L) 27 :: row b4 (List.replicate 32 (Value.int .u8 0)) 27 :: Γ) (by (repeat (first | exact List.Sublist.refl _ | apply List.Sublist.cons_cons | apply List.Sublist.cons))) ?_
  refine TK.drawE mixed rfl Γ ?_
  refine m_take (At.mk : At 0) ?_
  (apply TA.takeA (At.mk : At 3); exact rfl; exact rfl; kernel_rfl; ((focus ((repeat (first | assumption | exact Ent.refl _ | apply Ent.tail)); done))); (apply PV.sliceArr (i := 0) (j := 32); exact rfl; exact tb rfl; exact rfl; exact tb rfl; exact .none; exact .none; exact (by omega); exact (by omega)))
  refine TA.know (t := 15) (v := .slice (some ⟨b5, 0, none⟩) L.length 32) (congrArg (fun z : Nat => Value.slice (some ⟨b5, 0, none⟩) z 32) hL.symm) ?_
  (apply TA.one 1; kernel_rfl; exact rfl)
  (apply TL.callV; exact rfl; exact callB_of (by kernel_rfl); exact rfl; exact fun _ h => h)
  exact block_t A c key _ (has_tls (has_tls hs)) hl
  rintro _ _ ⟨A13, c13, rfl, hc13, rfl⟩
  refine TL.back (by (focus ((repeat (first | assumption | exact Ent.refl _ | apply Ent.tail)); done))) ?_
  (apply TA.one 2; kernel_rfl; exact rfl)
  (apply TL.callV; exact rfl; exact callB_of (by kernel_rfl); exact rfl; exact fun _ h => h)
  exact with_t A13 c13 (fill64 (keyB key)) 92 (by decide) _ (has_bs 0 rfl) (by omega)
  rintro _ _ ⟨A14, c14, rfl, hc14, rfl⟩
  rw [← hY] at hc14 ⊢
  generalize blkB (keyB key) 92 = Y at hc14 hYl
  refine TL.back (by (focus ((repeat (first | assumption | exact Ent.refl _ | apply Ent.tail)); done))) ?_
  (apply TA.one 4; kernel_rfl; exact rfl)
  have hsrc : has (row b5 (bytesV L) 27 :: row b4 (List.replicate 32 (Value.int .u8 0)) 27 :: Γ) (srcAt 1 (some ⟨b5, 0, none⟩) L.length (bytesV L)) := has_src_row 0 rfl (by rw [bytesV_length, Nat.mul_one])
  (apply TL.appB 0; exact rfl; exact rfl; exact tb rfl; exact rfl; exact tb rfl; exact rfl; exact rfl; exact rfl; exact rfl; exact fun _ h => h; exact rfl; (exact m_hsrc))
  · omega
  · exact fun _ => (rfl : _ = _ :: _)
  intro A16 c16 hc16
  refine TL.back (by (focus ((repeat (first | assumption | exact Ent.refl _ | apply Ent.tail)); done))) ?_
  (apply TA.one 5; kernel_rfl; exact rfl)
  (apply TL.callV; exact rfl; exact callB_of (by kernel_rfl); exact rfl; exact fun _ h => h)
  exact refsum_t A16 c16 (Y ++ L) _ (has_bs 0 rfl) (by rw [List.length_append]; omega)
  rintro _ _ ⟨rfl, rfl⟩
  refine TL.back (by (focus ((repeat (first | assumption | exact Ent.refl _ | apply Ent.tail)); done))) ?_
  have hL2 := hashB_len (Y ++ L)
  have ho2 := bs_one (hashB (Y ++ L))
  generalize hashB (Y ++ L) = M at hL2 ho2
  (apply TA.one 6; kernel_rfl; exact rfl)
  (apply TL.storeAggE 3 (l' := bytesV M); exact rfl; exact rfl; exact rfl; exact (by simpa [allOne] using ho2); exact tb rfl; exact (by rw [bytesV_length, hL2]; rfl); exact (by rw [bytesV_length, hL2]; simp); exact (by rw [List.take_zero, List.nil_append, List.drop_of_length_le (by rw [bytesV_length, hL2]; simp), List.append_nil]); exact rfl)
  refine TL.back (by (focus ((repeat (first | assumption | exact Ent.refl _ | apply Ent.tail)); done))) ?_
  refine TA.done (by kernel_rfl) ?_
  refine m_run ?_
  (apply TK.retRow (i := 3) (vs := bytesV M); exact rfl; exact rfl; exact rfl; exact rfl; exact tb rfl; exact rfl; exact (by rw [List.drop_zero]; exact List.take_of_length_le (by rw [bytesV_length, hL2]; decide)); exact (by rw [bytesV_length, hL2]; rfl))
  · exact ⟨_, rfl, rfl, rfl⟩
  · (repeat (first | exact List.Sublist.refl _ | apply List.Sublist.cons_cons | apply List.Sublist.cons))
end Go.Proofs.YtdookobgkcnncaaDoor.E
