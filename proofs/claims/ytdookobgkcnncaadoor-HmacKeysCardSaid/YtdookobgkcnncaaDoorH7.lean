/- Arrays of bytes compared; the chapter's examples: 'works' of law 02 answers true. -/
import Derived.Test.YtdookobgkcnncaaDoorH6
import Derived.Stop.BytesEq
namespace Go.Proofs.YtdookobgkcnncaaDoor.E
open Go Go.RowKit Go.Proofs
section
variable {P : Program} {Sw : World → Prop} {ρ : Env} {d : Nat} {ty : TypeId} {pos : String} {after : Array Edge} {t t' e n : Nat} {x y : Operand} {a b : List UInt8} {r r' : TR}
theorem run_eqB (w : World) (ht : TabOk P t r) (hq : r.und = .array n e) (ht' : TabOk P e r') (hu : r'.und = .int .u8) (hs : r'.size = 1) (hx : a.length = n) (hy : b.length = n) :
    (binOp .eql t (.agg (bytesV a).toArray) (.agg (bytesV b).toArray)).run P w = .ok (.bool (a == b)) w :=
  run_eql_bytes w t e n (by rw [← hq]; exact ht.1) (by rw [← hu]; exact ht'.1) (fun w => by rw [ht'.run_size, hs]) a b hx hy
theorem run_neB (w : World) (ht : TabOk P t r) (hq : r.und = .array n e) (ht' : TabOk P e r') (hu : r'.und = .int .u8) (hs : r'.size = 1) (hx : a.length = n) (hy : b.length = n) :
    (binOp .neq t (.agg (bytesV a).toArray) (.agg (bytesV b).toArray)).run P w = .ok (.bool (!(a == b))) w := by
  have h := run_equalIn_bytes w 9998 t e n (by rw [← hq]; exact ht.1) (by rw [← hu]; exact ht'.1) (fun w => by rw [ht'.run_size, hs]) a b hx hy
  have h2 : (binOp .neq t (.agg (bytesV a).toArray) (.agg (bytesV b).toArray)).run P w = ((Op.equalIn 10000 t (.agg (bytesV a).toArray) (.agg (bytesV b).toArray)).run P w).andThen fun b w' => .ok (.bool (!b)) w' := by
    simp [binOp, Op.equal, Op.maxDepth]
  have h3 : (Op.equalIn 10000 t (.agg (bytesV a).toArray) (.agg (bytesV b).toArray)).run P w = .ok (a == b) w := h
  rw [h2, h3]
  rfl
theorem PV.eqBytes (ea : ev ρ x = .agg (bytesV a).toArray) (eb : ev ρ y = .agg (bytesV b).toArray) (ht : TabOk P t r) (hq : r.und = .array n e) (ht' : TabOk P e r') (hu : r'.und = .int .u8) (hs : r'.size = 1) (hm : P.eqGuardType P.depth t = false) (hx : a.length = n) (hy : b.length = n) :
    PV P ρ Sw ⟨some d, .binOp .eql t x y t', ty, pos, after, none⟩ (.bool (a == b)) := fun w _ => by
  simp only [execOp, ea, eb, Sem.run_bind, run_eqGuard_agg w .eql t x y _ _ hm, Result.andThen_ok, run_eqB w ht hq ht' hu hs hx hy]
  rfl
theorem PV.neBytes (ea : ev ρ x = .agg (bytesV a).toArray) (eb : ev ρ y = .agg (bytesV b).toArray) (ht : TabOk P t r) (hq : r.und = .array n e) (ht' : TabOk P e r') (hu : r'.und = .int .u8) (hs : r'.size = 1) (hm : P.eqGuardType P.depth t = false) (hx : a.length = n) (hy : b.length = n) :
    PV P ρ Sw ⟨some d, .binOp .neq t x y t', ty, pos, after, none⟩ (.bool (!(a == b))) := fun w _ => by
  simp only [execOp, ea, eb, Sem.run_bind, run_eqGuard_agg w .neq t x y _ _ hm, Result.andThen_ok, run_neB w ht hq ht' hu hs hx hy]
  rfl
end
attribute [local irreducible] TK TL TQ TA Fn PV
theorem hashB_len (l : List UInt8) : (hashB l).length = 32 := by
  unfold hashB
  rw [List.length_map, List.length_range]
attribute [local irreducible] rounds sched kC comp1 compN rotr hashB hashW
/-- Bytes of a constant are written. -/
theorem writeRo_t (b b1 n : Nat) (bs l : List UInt8) (Γ : List HP) (hn : n = l.length) (hlen : bs.length + l.length ≤ 1000000000000) (hK : gConst Γ) :
    FnV Tryd.prog 18 [.pointer (some ⟨b, 0, none⟩), .slice (some ⟨b1, 0, none⟩) n n] (roB b1 (bytesV l) :: stA b bs :: Γ) fun v Γ' => v = .int .i64 0 ∧ Γ' = stA b (bs ++ l) :: roB b1 (bytesV l) :: Γ := by
  subst hn
  refine FnV.imp (fun m hm => all_perm (List.Perm.swap _ _ _) hm) ?_
  exact write_t b bs l (some ⟨b1, 0, none⟩) l.length (roB b1 (bytesV l) :: Γ) (has_roB 0 rfl (by rw [bytesV_length])) (Nat.le_refl _) hlen (has_tlg hK)
theorem hex_e : hexM (hashB []) = [101, 51, 98, 48, 99, 52, 52, 50, 57, 56, 102, 99, 49, 99, 49, 52, 57, 97, 102, 98, 102, 52, 99, 56, 57, 57, 54, 102, 98, 57, 50, 52, 50, 55, 97, 101, 52, 49, 101, 52, 54, 52, 57, 98, 57, 51, 52, 99, 97, 52, 57, 53, 57, 57, 49, 98, 55, 56, 53, 50, 98, 56, 53, 53] := by rw [hash_e]; decide +kernel
theorem hex_abc : hexM (hashB [97, 98, 99]) = [98, 97, 55, 56, 49, 54, 98, 102, 56, 102, 48, 49, 99, 102, 101, 97, 52, 49, 52, 49, 52, 48, 100, 101, 53, 100, 97, 101, 50, 50, 50, 51, 98, 48, 48, 51, 54, 49, 97, 51, 57, 54, 49, 55, 55, 97, 57, 99, 98, 52, 49, 48, 102, 102, 54, 49, 102, 50, 48, 48, 49, 53, 97, 100] := by rw [hash_abc]; decide +kernel
set_option maxRecDepth 100000 in
set_option maxHeartbeats 1000000 in
theorem works2_t (Γ : List HP) (hB : gBegin Γ) (hK : gConst Γ) : FnV Tryd.prog 11 [] Γ fun v Γ' => v = .bool true ∧ Γ' = Γ := by
  refine Fn.enter Tryd.func11 rfl rfl rfl fun E => ?_
  refine m_run ?_
  (apply TL.callV; exact rfl; exact callB_of (by kernel_rfl); exact rfl; exact fun _ h => h)
  exact shasum_t none 0 [] Γ (has_srcnil _ _) (fun s h => by cases h) (fun s h => by cases h) (by decide) (by decide) hB hK
  rintro _ Γ ⟨rfl, rfl⟩
  rw [show flatS [] = [] from rfl]
  obtain ⟨he, hhe⟩ : ∃ he, hashB [] = he := ⟨_, rfl⟩
  have hel := hashB_len []
  rw [hhe] at hel ⊢
  (apply TL.alloc; exact rfl; exact tb rfl; exact (by kernel_rfl : _ = List.replicate 32 (Value.int .u8 0)))
  intro b1
  (apply TL.storeAggE 0 (l' := bytesV he); exact rfl; exact rfl; exact rfl; exact (by simpa [allOne] using bs_one he); exact tb rfl; exact (by rw [bytesV_length, hel]; rfl); exact (by rw [bytesV_length, hel]; decide); exact (by rw [List.take_zero, List.nil_append, List.drop_of_length_le (by rw [bytesV_length, hel]; decide), List.append_nil]); exact (rfl : _ = row b1 (bytesV he) 27 :: Γ))
  refine m_run ?_
  (apply TL.buildSlice; exact rfl; exact tb rfl; exact rfl; exact tb rfl; exact rfl; exact rfl; exact rfl; exact rfl; (exact m_lst))
  intro b2
  refine m_run ?_
  (apply TL.convConst 0; exact rfl; exact rfl; exact rfl; exact tb rfl; exact rfl; exact tb rfl; exact rfl; exact (rfl : _ = _ :: _))
  refine m_run ?_
  (apply TL.buildSlice; exact rfl; exact tb rfl; exact rfl; exact tb rfl; exact rfl; exact rfl; exact rfl; exact rfl; (exact m_lst))
  intro b3
  refine m_run ?_
  (apply TL.convConst 0; exact rfl; exact rfl; exact rfl; exact tb rfl; exact rfl; exact tb rfl; exact rfl; exact (rfl : _ = _ :: _))
  refine m_run ?_
  (apply TL.buildSlice; exact rfl; exact tb rfl; exact rfl; exact tb rfl; exact rfl; exact rfl; exact rfl; exact rfl; (exact m_lst))
  intro b4
  refine m_run ?_
  (apply TL.callV; exact rfl; exact callB_of (by kernel_rfl); exact rfl; exact fun _ h => h)
  exact shasum_t (some ⟨b4, 0, none⟩) 3 [⟨some ⟨b2, 0, none⟩, 1, [97]⟩, ⟨none, 0, []⟩, ⟨some ⟨b3, 0, none⟩, 2, [98, 99]⟩] _ (has_src_row 0 rfl rfl) (fun s h => by
    simp only [List.mem_cons, List.not_mem_nil, or_false] at h
    rcases h with rfl | rfl | rfl
    · exact has_roB 2 rfl rfl
    · exact has_srcnil _ _
    · exact has_roB 1 rfl rfl) (fun s h => by
    simp only [List.mem_cons, List.not_mem_nil, or_false] at h
    rcases h with rfl | rfl | rfl <;> exact Nat.le_refl _) (show 3 ≤ 1000000000 by decide) (show 3 ≤ 1000000000 by decide) (has_tlg (has_tlg (has_tlg (has_tlg hB)))) (has_tlg (has_tlg (has_tlg (has_tlg hK))))
  rintro _ _ ⟨rfl, rfl⟩
  rw [show flatS [⟨some ⟨b2, 0, none⟩, 1, [97]⟩, ⟨none, 0, []⟩, ⟨some ⟨b3, 0, none⟩, 2, [98, 99]⟩] = [97, 98, 99] from rfl]
  obtain ⟨ha, hha⟩ : ∃ ha, hashB [97, 98, 99] = ha := ⟨_, rfl⟩
  have hal := hashB_len [97, 98, 99]
  rw [hha] at hal ⊢
  refine TL.sub (Δ := row b1 (bytesV he) 27 :: Γ) (by (repeat (first | exact List.Sublist.refl _ | apply List.Sublist.cons_cons | apply List.Sublist.cons))) ?_
  (apply TL.alloc; exact rfl; exact tb rfl; exact (by kernel_rfl : _ = List.replicate 32 (Value.int .u8 0)))
  intro b5
  (apply TL.storeAggE 0 (l' := bytesV ha); exact rfl; exact rfl; exact rfl; exact (by simpa [allOne] using bs_one ha); exact tb rfl; exact (by rw [bytesV_length, hal]; rfl); exact (by rw [bytesV_length, hal]; decide); exact (by rw [List.take_zero, List.nil_append, List.drop_of_length_le (by rw [bytesV_length, hal]; decide), List.append_nil]); exact (rfl : _ = row b5 (bytesV ha) 27 :: row b1 (bytesV he) 27 :: Γ))
  refine m_run ?_
  (apply TL.callV; exact rfl; exact callB_of (by kernel_rfl); exact rfl; exact fun _ h => h)
  exact new_t _ (has_tlg (has_tlg hB))
  rintro _ _ ⟨b, rfl, rfl⟩
  refine m_run ?_
  (apply TL.buildSlice; exact rfl; exact tb rfl; exact rfl; exact tb rfl; exact rfl; exact rfl; exact rfl; exact rfl; (exact m_lst))
  intro b6
  refine m_run ?_
  (apply TL.convConst 0; exact rfl; exact rfl; exact rfl; exact tb rfl; exact rfl; exact tb rfl; exact rfl; exact (rfl : _ = _ :: _))
  refine m_run ?_
  (apply TL.callV; exact rfl; exact callB_of (by kernel_rfl); exact rfl; exact fun _ h => h)
  exact writeRo_t b b6 2 [] [97, 98] _ rfl (by decide) (has_tlg (has_tlg hK))
  rintro _ _ ⟨rfl, rfl⟩
  refine m_run ?_
  (apply TL.buildSlice; exact rfl; exact tb rfl; exact rfl; exact tb rfl; exact rfl; exact rfl; exact rfl; exact rfl; (exact m_lst))
  intro b7
  refine m_run ?_
  (apply TL.convConst 0; exact rfl; exact rfl; exact rfl; exact tb rfl; exact rfl; exact tb rfl; exact rfl; exact (rfl : _ = _ :: _))
  refine m_run ?_
  (apply TL.callV; exact rfl; exact callB_of (by kernel_rfl); exact rfl; exact fun _ h => h)
  exact writeRo_t b b7 1 [97, 98] [99] _ rfl (by decide) (has_tlg (has_tlg (has_tlg hK)))
  rintro _ _ ⟨rfl, rfl⟩
  refine m_run ?_
  refine TK.sub (Δ := stA b [97, 98, 99] :: row b5 (bytesV ha) 27 :: row b1 (bytesV he) 27 :: Γ) (by (repeat (first | exact List.Sublist.refl _ | apply List.Sublist.cons_cons | apply List.Sublist.cons))) ?_
  refine TK.drawS mixed rfl ?_
  (apply TA.takeA (At.mk : At 0); exact rfl; exact rfl; kernel_rfl; ((focus ((repeat (first | assumption | exact Ent.refl _ | apply Ent.tail)); done))); (apply PV.sliceArr (i := 0) (j := 32); exact rfl; exact tb rfl; exact rfl; exact tb rfl; exact .none; exact .none; exact (by omega); exact (by omega)))
  refine TA.know (t := 28) (v := .slice (some ⟨b1, 0, none⟩) he.length 32) (congrArg (fun z => Value.slice (some ⟨b1, 0, none⟩) z 32) hel.symm) ?_
  (apply TA.one 1; kernel_rfl; exact rfl)
  refine m_run ?_
  (apply TL.callV; exact rfl; exact callB_of (by kernel_rfl); exact rfl; exact fun _ h => h)
  exact hex_t (some ⟨b1, 0, none⟩) 32 he _ (has_src_row 2 rfl (by rw [bytesV_length, Nat.mul_one])) (by omega)
  rintro _ _ ⟨rfl, rfl⟩
  refine m_run ?_
  refine TL.back (by (focus ((repeat (first | assumption | exact Ent.refl _ | apply Ent.tail)); done))) ?_
  refine m_take (At.mk : At 2) ?_; refine m_take (At.mk : At 3) ?_
  refine TA.isT 31 rfl (decide_eq_true (by rw [← hhe]; exact hex_e)) ?_
  (apply TA.takeY (At.mk : At 4); exact rfl; exact rfl; exact rfl; exact rfl; exact rfl; kernel_rfl; ((focus ((repeat (first | assumption | exact Ent.refl _ | apply Ent.tail)); done))); (apply PV.sliceArr (i := 0) (j := 32); exact rfl; exact tb rfl; exact rfl; exact tb rfl; exact .none; exact .none; exact (by omega); exact (by omega)))
  refine TA.know (t := 32) (v := .slice (some ⟨b5, 0, none⟩) ha.length 32) (congrArg (fun z => Value.slice (some ⟨b5, 0, none⟩) z 32) hal.symm) ?_
  (apply TA.one 5; kernel_rfl; exact rfl)
  refine m_run ?_
  (apply TL.callV; exact rfl; exact callB_of (by kernel_rfl); exact rfl; exact fun _ h => h)
  exact hex_t (some ⟨b5, 0, none⟩) 32 ha _ (has_src_row 1 rfl (by rw [bytesV_length, Nat.mul_one])) (by omega)
  rintro _ _ ⟨rfl, rfl⟩
  refine m_run ?_
  refine TL.back (by (focus ((repeat (first | assumption | exact Ent.refl _ | apply Ent.tail)); done))) ?_
  refine m_take (At.mk : At 6) ?_; refine m_take (At.mk : At 7) ?_; refine m_take (At.mk : At 8) ?_
  refine TA.isT 36 rfl (decide_eq_true (by rw [← hha]; exact hex_abc)) ?_
  refine m_take (At.mk : At 9) ?_
  (apply TA.takeY (At.mk : At 11); exact rfl; exact rfl; exact rfl; exact rfl; exact rfl; kernel_rfl; ((focus ((repeat (first | assumption | exact Ent.refl _ | apply Ent.tail)); done))); (apply PV.loadAggH; exact rfl; exact tb rfl; exact rfl; exact has_tlg has_rowAll; exact (by rw [bytesV_length, hal])))
  (apply TA.one 10; kernel_rfl; exact rfl)
  refine m_run ?_
  (apply TL.callV; exact rfl; exact callB_of (by kernel_rfl); exact rfl; exact fun _ h => h)
  exact sum_t b [97, 98, 99] (row b5 (bytesV ha) 27 :: row b1 (bytesV he) 27 :: Γ) (by decide) (has_tlg (has_tlg hK))
  rintro _ _ ⟨rfl, rfl⟩
  rw [hha]
  refine m_run ?_
  refine TL.back (by (focus ((repeat (first | assumption | exact Ent.refl _ | apply Ent.tail)); done))) ?_
  (apply TA.takeY (At.mk : At 12); exact rfl; exact rfl; exact rfl; exact rfl; exact rfl; kernel_rfl; ((focus ((repeat (first | assumption | exact Ent.refl _ | apply Ent.tail)); done))); (apply PV.eqBytes; exact rfl; exact rfl; exact tb rfl; exact rfl; exact tb rfl; exact rfl; exact rfl; kernel_rfl; exact hal; exact hal))
  refine TA.isT 40 rfl (beq_self_eq_true ha) ?_
  refine m_take (At.mk : At 13) ?_; refine m_take (At.mk : At 14) ?_
  refine TA.done (by kernel_rfl) ?_
  refine m_run ?_
  (apply TK.retS1; exact rfl; exact rfl; (exact m_val))
  · exact ⟨_, rfl, rfl, rfl⟩
  · (repeat (first | exact List.Sublist.refl _ | apply List.Sublist.cons_cons | apply List.Sublist.cons))
end Go.Proofs.YtdookobgkcnncaaDoor.E
