/- The document's sum, walked. -/
import Derived.Test.YtdookobgkcnncaaDoorJ4
import Derived.Test.YtdookobgkcnncaaDoorH6
namespace Go.Proofs.YtdookobgkcnncaaDoor.E
open Go Go.RowKit Go.Proofs
attribute [local irreducible] TK TL TQ TA Fn PV
attribute [local irreducible] rounds sched kC comp1 compN rotr hashB hashW
theorem v8_word {v : V8} {k : Nat} (h : k < 8) : (v.l.map w32)[k]? = some (w32 (v.l.getD k 0)) := by
  have h1 : k < v.l.length := h
  rw [List.getElem?_map, List.getD_eq_getElem?_getD]
  simp [h1]
set_option maxRecDepth 100000 in
set_option maxHeartbeats 1000000 in
theorem refsum_t (A : Option Addr) (c : Nat) (l : List UInt8) (Γ : List HP) (hs : has Γ (srcAt 1 A l.length (bytesV l))) (hl : l.length ≤ 1000000000 - 200) :
    FnV Tryd.prog 14 [.slice A l.length c] Γ fun v Γ' => v = .agg (bytesV (hashB l)).toArray ∧ Γ' = Γ := by
  refine Fn.enter Tryd.func14 rfl rfl rfl fun E => ?_
  refine m_run ?_
  (apply TL.alloc; exact rfl; exact tb rfl; exact (by kernel_rfl : _ = List.replicate 32 (Value.int .u8 0)))
  intro b2
  refine m_run ?_
  (apply TL.buildArr; exact rfl; exact tb rfl; exact rfl; exact tb rfl; exact rfl; exact rfl; exact (rfl : _ = begin8.l.map w32))
  (apply TL.alloc; exact rfl; exact tb rfl; exact (by kernel_rfl : _ = List.replicate 8 (w32 0)))
  intro b3
  (apply TL.storeAggE 0 (l' := begin8.l.map w32); exact rfl; exact rfl; exact rfl; exact rfl; exact tb rfl; exact rfl; exact (by decide); exact rfl; exact rfl)
  refine m_run ?_
  (apply TL.callV; exact rfl; exact callB_of (by kernel_rfl); exact rfl; exact fun _ h => h)
  exact padded_t A c l _ (has_tls (has_tls hs)) (by omega)
  rintro _ _ ⟨A4, c4, rfl, hc4, rfl⟩
  obtain ⟨N, hN⟩ : ∃ N, (padded l).length = 64 * N := ⟨_, padded_len l⟩
  have hNb : N ≤ 1000000000 := by have := padded_len l; omega
  have hout : hashB l = (List.range 32).map (outB (compN N begin8 (padded l))) := by
    rw [hashB, hashW, hN, Nat.mul_comm, Nat.mul_div_cancel _ (by decide)]
  rw [hout]
  clear hout hs
  generalize padded l = P at hN hc4
  refine m_run ?_
  apply TK.iter (fun j ρ' Γ' => ∃ (n : Nat) (v : V8), n + j = N ∧ compN n begin8 P = v ∧ lk ρ' 2 = .pointer (some ⟨b2, 0, none⟩) ∧ lk ρ' 3 = .pointer (some ⟨b3, 0, none⟩) ∧ lk ρ' 4 = .slice A4 P.length c4 ∧ lk ρ' 5 = .int .i64 ((64 * n : Nat) : Int) ∧ Γ' = bsA 5 (.slice A4 P.length c4) P :: row b3 (v.l.map w32) 52 :: row b2 (List.replicate 32 (Value.int .u8 0)) 27 :: Γ) N
  · exact ⟨0, begin8, Nat.zero_add _, by rw [compN], rfl, rfl, rfl, rfl, rfl⟩
  rintro j IH ρ' _ ⟨n, v, hij, hv, e2, e3, e4, e5, rfl⟩
  refine TK.know4 e2 e3 e4 e5 ?_
  by_cases hi : n < N
  · obtain ⟨blk, hblk⟩ : ∃ blk, (P.drop (64 * n)).take 64 = blk := ⟨_, rfl⟩
    have hbl : blk.length = 64 := by rw [← hblk, List.length_take, List.length_drop]; omega
    have hsb : has (bsA 5 (.slice A4 P.length c4) P :: row b3 (v.l.map w32) 52 :: row b2 (List.replicate 32 (Value.int .u8 0)) 27 :: Γ) (srcAt 1 (if c4 = 64 * n then A4 else A4.map fun a => a.add (64 * n * 1)) blk.length (bytesV blk)) := by
      have h1 := has_imp (has_bs (e := 5) (n := P.length) (c := c4) (A := A4) (l := P) (Γ := bsA 5 (.slice A4 P.length c4) P :: row b3 (v.l.map w32) 52 :: row b2 (List.replicate 32 (Value.int .u8 0)) 27 :: Γ) 0 rfl) fun m h => src_part (i := 64 * n) (j := 64 * n + 64) (c := c4) h (by omega) (by omega) (by omega)
      rw [hbl]
      rw [show 64 * n + 64 - 64 * n = 64 by omega, Nat.mul_one, Nat.mul_one, ← bytesV_drop, ← bytesV_take, hblk] at h1
      rw [Nat.mul_one]
      exact h1
    have hnext : compN (n + 1) begin8 P = comp1 v blk := by rw [compN_succ, hv, hblk]
    clear hblk
    refine m_run ?_
    refine TK.drawE mixed rfl Γ ?_
    refine m_take (At.mk : At 1) ?_; refine m_take (At.mk : At 2) ?_; refine m_take (At.mk : At 3) ?_; refine m_take (At.mk : At 4) ?_
    refine TA.know (t := 21) (v := .int .i64 ((64 * n + 64 : Nat) : Int)) (congrArg (Value.int .i64) (by rw [i64_in (by omega) (by omega)]; omega)) ?_
    (apply TA.takeA (At.mk : At 5); exact rfl; exact rfl; kernel_rfl; ((focus ((repeat (first | assumption | exact Ent.refl _ | apply Ent.tail)); done))); (apply PV.sliceS (i := 64 * n) (j := 64 * n + 64); exact rfl; exact tb rfl; exact rfl; exact tb rfl; exact .some rfl; exact .some rfl; exact (by omega); exact (by omega)))
    refine TA.know (t := 22) (v := .slice (if c4 = 64 * n then A4 else A4.map fun a => a.add (64 * n * 1)) blk.length (c4 - 64 * n)) (congrArg (fun z : Nat => Value.slice (if c4 = 64 * n then A4 else A4.map fun a : Addr => a.add (64 * n * 1)) z (c4 - 64 * n)) (show 64 * n + 64 - 64 * n = blk.length by omega)) ?_
    (apply TA.one 0; kernel_rfl; exact rfl)
    (apply TL.pv; exact rfl; (apply PV.loadAggH; exact rfl; exact tb rfl; exact rfl; exact has_tlg has_rowAll; exact rfl))
    refine TL.back (by (focus ((repeat (first | assumption | exact Ent.refl _ | apply Ent.tail)); done))) ?_
    (apply TA.one 6; kernel_rfl; exact rfl)
    (apply TL.callV; exact rfl; exact callB_of (by kernel_rfl); exact rfl; exact fun _ h => h)
    exact reftake_t v _ _ blk _ hsb hbl
    rintro _ _ ⟨rfl, rfl⟩
    refine TL.back (by (focus ((repeat (first | assumption | exact Ent.refl _ | apply Ent.tail)); done))) ?_
    (apply TA.one 7; kernel_rfl; exact rfl)
    (apply TL.storeAggE 1 (l' := (comp1 v blk).l.map w32); exact rfl; exact rfl; exact rfl; exact rfl; exact tb rfl; exact rfl; exact (Nat.le_refl 8); exact rfl; exact rfl)
    refine TL.back (by (focus ((repeat (first | assumption | exact Ent.refl _ | apply Ent.tail)); done))) ?_
    refine TA.done (by kernel_rfl) ?_
    refine m_run ?_
    exact IH (j - 1) _ _ (by omega) ⟨n + 1, comp1 v blk, by omega, hnext, rfl, rfl, rfl, congrArg (Value.int .i64) (by rw [i64_in (by omega) (by omega)]; omega), rfl⟩
  obtain rfl : n = N := by omega
  rw [hv]
  clear IH e2 e3 e4 e5 hij
  refine m_run ?_
  (apply TL.alloc; exact rfl; exact tb rfl; exact (by kernel_rfl : _ = List.replicate 32 (Value.int .u8 0)))
  intro b6
  refine m_run ?_
  apply TK.iter (fun j ρ' Γ' => ∃ i : Nat, i + j = 32 ∧ lk ρ' 2 = .pointer (some ⟨b2, 0, none⟩) ∧ lk ρ' 3 = .pointer (some ⟨b3, 0, none⟩) ∧ lk ρ' 6 = .pointer (some ⟨b6, 0, none⟩) ∧ lk ρ' 7 = .int .i64 (i : Int) ∧ Γ' = row b6 (bytesV ((List.range i).map (outB v)) ++ List.replicate (32 - i) (Value.int .u8 0)) 27 :: bsA 5 (.slice A4 P.length c4) P :: row b3 (v.l.map w32) 52 :: row b2 (List.replicate 32 (Value.int .u8 0)) 27 :: Γ) 32
  · exact ⟨0, Nat.zero_add _, rfl, rfl, rfl, rfl, rfl⟩
  rintro j IH ρ' _ ⟨i, hij, e2, e3, e6, e7, rfl⟩
  refine TK.know4 e2 e3 e6 e7 ?_
  by_cases hi : i < 32
  · have hw : has (row b6 (bytesV ((List.range i).map (outB v)) ++ List.replicate (32 - i) (Value.int .u8 0)) 27 :: bsA 5 (.slice A4 P.length c4) P :: row b3 (v.l.map w32) 52 :: row b2 (List.replicate 32 (Value.int .u8 0)) 27 :: Γ) (fun m => cellAt m b3 (i / 4) (w32 (v.l.getD (i / 4) 0))) := has_at (up_cell _ _ _) 2 rfl fun m h => row_cell h (v8_word (by omega))
    refine m_run ?_
    refine TL.know (t := 30) (v := .int .i64 ((i / 4 : Nat) : Int)) (congrArg (Value.int .i64) (by rw [show (i : Int).tdiv 4 = ((i / 4 : Nat) : Int) from rfl, i64_nat (by omega)])) ?_
    refine m_run ?_
    refine TL.know (t := 37) (v := .int .u64 ((24 - 8 * (i % 4) : Nat) : Int)) (congrArg (Value.int .u64) (by rw [i64_in (x := 8 * ((i % 4 : Nat) : Int)) (by omega) (by omega), i64_in (by omega) (by omega), u64_in (by omega) (by omega)]; omega)) ?_
    (apply TL.pv; exact rfl; (apply PV.shrW (k := 24 - 8 * (i % 4)); exact rfl; exact rfl; exact rfl; exact (by omega)))
    refine m_run ?_
    (apply TL.storeE 0 (l' := bytesV ((List.range i).map (outB v) ++ [outB v i]) ++ List.replicate (32 - (i + 1)) (Value.int .u8 0)); exact rfl; exact rfl; exact rfl; exact rfl; exact tb rfl; exact rfl; exact (by simp [bytesV_length]; omega); exact out_set (by simp) hi; exact rfl)
    refine m_run ?_
    exact IH (j - 1) _ _ (by omega) ⟨i + 1, by omega, rfl, rfl, rfl, congrArg (Value.int .i64) (i64_succ i (by omega)), by rw [List.range_succ, List.map_append]; rfl⟩
  obtain rfl : i = 32 := by omega
  clear IH e2 e3 e6 e7
  rw [Nat.sub_self, List.replicate_zero, List.append_nil]
  have hbl : (bytesV ((List.range 32).map (outB v))).length = 32 := by rw [bytesV_length]; simp
  have hbo := bs_one ((List.range 32).map (outB v))
  generalize bytesV ((List.range 32).map (outB v)) = L at hbl hbo
  refine m_run ?_
  (apply TL.pv; exact rfl; (apply PV.loadAggH; exact rfl; exact tb rfl; exact rfl; exact has_rowAll; exact hbl))
  (apply TL.storeAggE 3 (l' := L); exact rfl; exact rfl; exact rfl; exact (by simpa [allOne] using hbo); exact tb rfl; exact (by rw [hbl]; rfl); exact (by rw [hbl]; exact Nat.le_refl 32); exact (by rw [List.take_zero, List.nil_append, List.drop_of_length_le (by rw [hbl]; exact Nat.le_refl 32), List.append_nil]); exact rfl)
  refine m_run ?_
  (apply TK.retRow (i := 3) (vs := L); exact rfl; exact rfl; exact rfl; exact rfl; exact tb rfl; exact rfl; exact (by rw [List.drop_zero]; exact List.take_of_length_le (by rw [hbl]; decide)); exact (by rw [hbl]; rfl))
  · exact ⟨_, rfl, rfl, rfl⟩
  · (repeat (first | exact List.Sublist.refl _ | apply List.Sublist.cons_cons | apply List.Sublist.cons))
end Go.Proofs.YtdookobgkcnncaaDoor.E
