/- HmacTags, whatever is handed in (sized): the walk. -/
import Derived.Test.YtdookobgkcnncaaDoorN1
import Derived.Test.YtdookobgkcnncaaDoorJ3
namespace Go.Proofs.YtdookobgkcnncaaDoor.E
open Go Go.RowKit Go.Proofs
attribute [local irreducible] TK TL TQ TA Fn PV
attribute [local irreducible] rounds sched kC comp1 compN rotr hashB hashW tagB
theorem tagB_len (key msg : List UInt8) : (tagB key msg).length = 32 := by unfold tagB; exact hashB_len _
set_option maxRecDepth 100000 in
set_option maxHeartbeats 1000000 in
theorem tags_t (A B : Option Addr) (c c' : Nat) (key : List UInt8) (ss : List (Sl UInt8)) (Γ : List HP) (hk : has Γ (srcAt 1 A key.length (bytesV key))) (hs : has Γ (srcAt 1 B ss.length (ss.map Sl.v))) (hss : ∀ s ∈ ss, has Γ (srcAt 1 s.A s.l.length (bytesV s.l))) (hcap : ∀ s ∈ ss, s.l.length ≤ s.c) (hl : ∀ s ∈ ss, s.l.length ≤ 140737488351232)
    (hB : gBegin Γ) (hK : gConst Γ) (hE : gErr Γ) :
    FnV Tryd.prog 7 [.slice A key.length c, .slice B ss.length c'] Γ fun v Γ' => v = .bool true ∧ Γ' = Γ := by
  refine Fn.enter Tryd.func7 rfl rfl rfl fun E => ?_
  refine m_run ?_
  (apply TL.callV; exact rfl; exact callB_of (by kernel_rfl); exact rfl; exact fun _ h => h)
  exact vast3_t A B c c' key ss _ hs hl
  rintro _ Γ ⟨t, rfl, rfl, ht⟩
  cases t with
  | true =>
    refine m_run ?_
    (apply TL.callV; exact rfl; exact callB_of (by kernel_rfl); exact rfl; exact fun _ h => h)
    exact works3_t _ hB hK hE
    rintro _ Γ ⟨rfl, rfl⟩
    refine m_run ?_
    (apply TK.ret1; exact rfl; exact rfl; (exact m_val))
    exact ⟨_, rfl, rfl, rfl⟩
  | false =>
  obtain ⟨hkl, hn, htot⟩ := ht rfl
  clear hl ht
  refine m_run ?_
  (apply TL.callV; exact rfl; exact callB_of (by kernel_rfl); exact rfl; exact fun _ h => h)
  exact join_t B c' ss _ hs hss (by omega) (by omega)
  rintro _ _ ⟨A5, c5, rfl, hc5, rfl⟩
  obtain ⟨T, hT⟩ : ∃ T, flatS ss = T := ⟨_, rfl⟩
  rw [hT] at hc5 htot ⊢
  refine m_run ?_
  (apply TL.callV; exact rfl; exact callB_of (by kernel_rfl); exact rfl; exact fun _ h => h)
  exact reftag_t A A5 c c5 key T _ (has_tls hk) (by omega) (has_bs 0 rfl) (by omega)
  rintro _ _ ⟨rfl, rfl⟩
  obtain ⟨tg, htg⟩ : ∃ tg, tagB key T = tg := ⟨_, rfl⟩
  have tgl : tg.length = 32 := by rw [← htg]; exact tagB_len _ _
  rw [htg]
  (apply TL.alloc; exact rfl; exact tb rfl; exact (by kernel_rfl : _ = List.replicate 32 (Value.int .u8 0)))
  intro b6
  (apply TL.storeAggE 0 (l' := bytesV tg); exact rfl; exact rfl; exact rfl; exact (by simpa [allOne] using bs_one tg); exact tb rfl; exact (by rw [bytesV_length, tgl]; rfl); exact (by rw [bytesV_length, tgl]; simp); exact (by rw [List.take_zero, List.nil_append, List.drop_of_length_le (by rw [bytesV_length, tgl]; simp), List.append_nil]); exact rfl)
  refine m_run ?_
  (apply TL.buildSlice; exact rfl; exact tb rfl; exact rfl; exact tb rfl; exact rfl; exact rfl; exact rfl; exact rfl; (exact m_lst))
  intro b19
  refine m_run ?_
  (apply TL.appB 0; exact rfl; exact rfl; exact tb rfl; exact rfl; exact tb rfl; exact rfl; exact rfl; exact rfl; exact rfl; exact fun _ h => bs_row (l := []) rfl rfl (by decide) h; exact rfl; (exact m_hsrc))
  · rw [List.length_nil]; omega
  · exact fun _ => (rfl : _ = _ :: _)
  intro A7 c7 hc7
  rw [List.nil_append] at hc7 ⊢
  refine m_run ?_
  (apply TL.callV; exact rfl; exact callB_of (by kernel_rfl); exact rfl; exact fun _ h => h)
  exact hnew_t A7 c7 key _ (has_bs 0 rfl) hc7 (by omega) (has_tlg (has_tlg (has_tlg hB))) (has_tlg (has_tlg (has_tlg hK)))
  rintro _ _ ⟨b, bi, bo, rfl, rfl⟩
  refine m_run ?_
  refine TK.imp (Δ := macG b bi bo key (bsA 5 (.slice A7 key.length c7) key :: row b6 (bytesV tg) 27 :: bsA 5 (.slice A5 T.length c5) T :: Γ)) (fun _ h => h) ?_
  refine TK.drawS mixed rfl ?_
  refine m_take (At.mk : At 0) ?_; refine m_take (At.mk : At 1) ?_; refine m_take (At.mk : At 2) ?_; refine m_take (At.mk : At 3) ?_; refine m_take (At.mk : At 4) ?_
  (apply TA.takeY (At.mk : At 6); exact rfl; exact rfl; exact rfl; exact rfl; exact rfl; kernel_rfl; ((focus ((repeat (first | assumption | exact Ent.refl _ | apply Ent.tail)); done))); (apply PV.loadAggH; exact rfl; exact tb rfl; exact rfl; exact has_tlg (has_tlg (has_tlg (has_tlg (has_rowAll)))); exact (by rw [bytesV_length, tgl])))
  (apply TA.one 5; kernel_rfl; exact rfl)
  refine m_rrun ?_
  (apply TL.callV; exact rfl; exact callB_of (by kernel_rfl); exact rfl; exact fun _ h => h)
  exact htag_t A7 A5 c7 c5 key T _ (has_bs 3 rfl) hc7 (by omega) (has_bs 5 rfl) hc5 (by omega) (has_tlg (has_tlg (has_tlg (has_tlg (has_tlg (has_tlg hB)))))) (has_tlg (has_tlg (has_tlg (has_tlg (has_tlg (has_tlg hK))))))
  rintro _ _ ⟨rfl, rfl⟩
  rw [htg]
  refine TL.back (by (focus ((repeat (first | assumption | exact Ent.refl _ | apply Ent.tail)); done))) ?_
  (apply TA.takeY (At.mk : At 7); exact rfl; exact rfl; exact rfl; exact rfl; exact rfl; kernel_rfl; ((focus ((repeat (first | assumption | exact Ent.refl _ | apply Ent.tail)); done))); (apply PV.neBytes; exact rfl; exact rfl; exact tb rfl; exact rfl; exact tb rfl; exact rfl; exact rfl; kernel_rfl; exact tgl; exact tgl))
  refine TA.isF 31 rfl (not_f (beq_self_eq_true tg)) ?_
  refine m_take (At.mk : At 8) ?_; refine m_take (At.mk : At 9) ?_; refine m_take (At.mk : At 10) ?_; refine m_take (At.mk : At 11) ?_; refine m_take (At.mk : At 12) ?_; refine m_take (At.mk : At 13) ?_; refine m_take (At.mk : At 14) ?_
  refine TA.isF 38 rfl (not_f (decide_eq_true rfl)) ?_
  refine m_take (At.mk : At 15) ?_
  refine TA.done (by kernel_rfl) ?_
  refine TK.perm (Δ := bsA 5 (.slice A7 key.length c7) key :: macG b bi bo key (row b6 (bytesV tg) 27 :: bsA 5 (.slice A5 T.length c5) T :: Γ)) (List.Perm.append_right (row b6 (bytesV tg) 27 :: bsA 5 (.slice A5 T.length c5) T :: Γ) (List.perm_append_comm (l₁ := [_, _, _]) (l₂ := [_]))) ?_
  refine m_run ?_
  apply TK.iter (fun j ρ' Γ' => ∃ (i : Nat) (s2 : List UInt8), i + j = key.length ∧ s2.length = key.length ∧ lk ρ' 0 = .slice A key.length c ∧ lk ρ' 1 = .slice B ss.length c' ∧ lk ρ' 5 = .slice A5 T.length c5 ∧ lk ρ' 6 = .pointer (some ⟨b6, 0, none⟩) ∧ lk ρ' 7 = .slice A7 key.length c7 ∧ lk ρ' 8 = .pointer (some ⟨b, 0, none⟩) ∧ lk ρ' 9 = .int .i64 (i : Int) ∧
    Γ' = own 5 1 (.slice A7 key.length c7) key.length (bytesV s2) :: macG b bi bo key (row b6 (bytesV tg) 27 :: bsA 5 (.slice A5 T.length c5) T :: Γ)) key.length
  · exact ⟨0, key, Nat.zero_add _, rfl, rfl, rfl, rfl, rfl, rfl, rfl, rfl, rfl⟩
  rintro j IH ρ' _ ⟨i, s2, hij, hs2, e0, e1, e5, e6, e7, e8, e9, rfl⟩
  refine TK.know7 e0 e1 e5 e6 e7 e8 e9 ?_
  by_cases hi : i < key.length
  · obtain ⟨ch, hch⟩ : ∃ ch, s2[i]? = some ch := ⟨s2[i]'(by omega), by simp [hs2, hi]⟩
    have hsrc2 : has (own 5 1 (.slice A7 key.length c7) key.length (bytesV s2) :: macG b bi bo key (row b6 (bytesV tg) 27 :: bsA 5 (.slice A5 T.length c5) T :: Γ)) (srcAt 1 A7 key.length (bytesV s2)) := has_at (up_src _ _ _ _) 0 rfl fun _ h => own_src h
    refine TK.mem fun m1 hm1 => ?_
    obtain ⟨b4, o4, rfl⟩ := src_some (hsrc2 m1 hm1) (by rw [bytesV_length]; omega)
    have hcell2 := has_byte hsrc2 hch
    refine m_run ?_
    refine TL.know (t := 52) (v := .int .u8 ((b8 (ch.toNat ^^^ 17)).toNat : Int)) (congrArg (Value.int .u8) (xor_b8 ch 17 (by decide))) ?_
    refine m_run ?_
    (apply TL.storeOwn 0 i; exact rfl; exact rfl; exact rfl; exact rfl; exact tb rfl; exact rfl; exact rfl)
    · exact hi
    refine m_run ?_
    refine IH (j - 1) _ _ (by omega) ⟨i + 1, s2.set i (b8 (ch.toNat ^^^ 17)), by omega, by simp [hs2], rfl, rfl, rfl, rfl, rfl, rfl, congrArg (Value.int .i64) (i64_succ i (by omega)), ?_⟩
    rw [bytesV_set]; rfl
  clear IH
  refine m_run ?_
  refine TK.sub (Δ := macG b bi bo key (row b6 (bytesV tg) 27 :: bsA 5 (.slice A5 T.length c5) T :: Γ)) (by (repeat (first | exact List.Sublist.refl _ | apply List.Sublist.cons_cons | apply List.Sublist.cons))) ?_
  clear e0 e1 e5 e6 e7 e8 e9
  refine TK.drawS mixed rfl ?_
  refine m_take (At.mk : At 0) ?_; refine m_take (At.mk : At 1) ?_
  (apply TA.takeA (At.mk : At 3); exact rfl; exact rfl; kernel_rfl; ((focus ((repeat (first | assumption | exact Ent.refl _ | apply Ent.tail)); done))); (apply PV.loadAggH; exact rfl; exact tb rfl; exact rfl; exact has_tlg (has_tlg (has_tlg (has_rowAll))); exact (by rw [bytesV_length, tgl])))
  (apply TA.one 2; kernel_rfl; exact rfl)
  (apply TL.callV; exact rfl; exact callB_of (by kernel_rfl); exact rfl; exact fun _ h => h)
  exact mtag_t b bi bo key B c' ss _ (has_tls (has_tls hs)) (fun s h => has_tls (has_tls (hss s h))) hcap (by rw [hT]; omega) (by omega) (has_tlg (has_tlg hK))
  rintro _ _ ⟨rfl, rfl⟩
  rw [hT, htg]
  refine TL.back (by (focus ((repeat (first | assumption | exact Ent.refl _ | apply Ent.tail)); done))) ?_
  (apply TA.takeA (At.mk : At 4); exact rfl; exact rfl; kernel_rfl; ((focus ((repeat (first | assumption | exact Ent.refl _ | apply Ent.tail)); done))); (apply PV.eqBytes; exact rfl; exact rfl; exact tb rfl; exact rfl; exact tb rfl; exact rfl; exact rfl; kernel_rfl; exact tgl; exact tgl))
  refine TA.isT 58 rfl (beq_self_eq_true tg) ?_
  refine m_take (At.mk : At 5) ?_; refine m_take (At.mk : At 6) ?_; refine m_take (At.mk : At 8) ?_
  (apply TA.one 7; kernel_rfl; exact rfl)
  refine m_rrun ?_
  (apply TL.callV; exact rfl; exact callB_of (by kernel_rfl); exact rfl; exact fun _ h => h)
  exact mtag_t b bi bo key none 0 [] _ (has_srcnil _ _) (fun s h => by cases h) (fun s h => by cases h) (show 0 ≤ 100000000 by decide) (show 0 ≤ 1000000000 by decide) (has_tlg (has_tlg hK))
  rintro _ _ ⟨rfl, rfl⟩
  rw [show flatS [] = [] from rfl]
  refine TL.back (by (focus ((repeat (first | assumption | exact Ent.refl _ | apply Ent.tail)); done))) ?_
  (apply TA.one 9; kernel_rfl; exact rfl)
  refine m_rrun ?_
  (apply TL.callV; exact rfl; exact callB_of (by kernel_rfl); exact rfl; exact fun _ h => h)
  exact reftag_t A none c 0 key [] _ (has_tls (has_tls (has_tls (has_tls (has_tls hk))))) (by omega) (has_srcnil _ _) (by decide)
  rintro _ _ ⟨rfl, rfl⟩
  have t0l := tagB_len key []
  generalize tagB key [] = t0 at t0l
  refine TL.back (by (focus ((repeat (first | assumption | exact Ent.refl _ | apply Ent.tail)); done))) ?_
  (apply TA.takeY (At.mk : At 10); exact rfl; exact rfl; exact rfl; exact rfl; exact rfl; kernel_rfl; ((focus ((repeat (first | assumption | exact Ent.refl _ | apply Ent.tail)); done))); (apply PV.eqBytes; exact rfl; exact rfl; exact tb rfl; exact rfl; exact tb rfl; exact rfl; exact rfl; kernel_rfl; exact t0l; exact t0l))
  refine TA.isT 64 rfl (beq_self_eq_true t0) ?_
  refine m_take (At.mk : At 11) ?_; refine m_take (At.mk : At 12) ?_; refine m_take (At.mk : At 13) ?_; refine m_take (At.mk : At 14) ?_
  (apply TA.takeY (At.mk : At 17); exact rfl; exact rfl; exact rfl; exact rfl; exact rfl; kernel_rfl; ((focus ((repeat (first | assumption | exact Ent.refl _ | apply Ent.tail)); done))); (apply PV.loadAggH; exact rfl; exact tb rfl; exact rfl; exact has_tlg (has_tlg (has_tlg (has_rowAll))); exact (by rw [bytesV_length, tgl])))
  (apply TA.one 15; kernel_rfl; exact rfl)
  refine m_rrun ?_
  (apply TL.buildSlice (l := [.slice A5 T.length c5]); exact rfl; exact tb rfl; exact rfl; exact tb rfl; exact rfl; exact rfl; exact rfl; exact rfl; kernel_rfl)
  intro b69
  refine TL.back (by (focus ((repeat (first | assumption | exact Ent.refl _ | apply Ent.tail)); done))) ?_
  (apply TA.one 16; kernel_rfl; exact rfl)
  refine m_rrun ?_
  (apply TL.callV (Δ := macG b bi bo key (row b69 [.slice A5 T.length c5] 30 :: row b6 (bytesV tg) 27 :: bsA 5 (.slice A5 T.length c5) T :: Γ)); exact rfl; exact callB_of (by kernel_rfl); exact rfl; exact fun _ h => all_perm (List.Perm.append_right (row b6 (bytesV tg) 27 :: bsA 5 (.slice A5 T.length c5) T :: Γ) (List.perm_append_comm (l₁ := [_]) (l₂ := [_, _, _]))) h)
  exact mtag_t b bi bo key (some ⟨b69, 0, none⟩) 1 [⟨A5, c5, T⟩] _ (has_src_row 0 rfl rfl) (fun x h => by
    simp only [List.mem_cons, List.not_mem_nil, or_false] at h
    subst h
    exact has_bs 2 rfl) (fun x h => by
    simp only [List.mem_cons, List.not_mem_nil, or_false] at h
    subst h
    exact hc5) (by rw [flat1]; omega) (show 1 ≤ 1000000000 by decide) (has_tlg (has_tlg (has_tlg hK)))
  rintro _ _ ⟨rfl, rfl⟩
  rw [flat1, htg]
  refine TL.perm (Δ := row b69 [.slice A5 T.length c5] 30 :: macG b bi bo key (row b6 (bytesV tg) 27 :: bsA 5 (.slice A5 T.length c5) T :: Γ)) (List.Perm.append_right (row b6 (bytesV tg) 27 :: bsA 5 (.slice A5 T.length c5) T :: Γ) (List.perm_append_comm (l₁ := [_, _, _]) (l₂ := [_]))) ?_
  refine TL.back (by (focus ((repeat (first | assumption | exact Ent.refl _ | apply Ent.tail)); done))) ?_
  (apply TA.takeY (At.mk : At 18); exact rfl; exact rfl; exact rfl; exact rfl; exact rfl; kernel_rfl; ((focus ((repeat (first | assumption | exact Ent.refl _ | apply Ent.tail)); done))); (apply PV.eqBytes; exact rfl; exact rfl; exact tb rfl; exact rfl; exact tb rfl; exact rfl; exact rfl; kernel_rfl; exact tgl; exact tgl))
  refine TA.isT 72 rfl (beq_self_eq_true tg) ?_
  refine m_take (At.mk : At 19) ?_; refine m_take (At.mk : At 20) ?_
  (apply TA.one 21; kernel_rfl; exact rfl)
  refine m_rrun ?_
  (apply TL.callV; exact rfl; exact callB_of (by kernel_rfl); exact rfl; exact fun _ h => h)
  exact works3_t _ (has_tlg (has_tlg (has_tlg (has_tlg (has_tlg (has_tlg hB)))))) (has_tlg (has_tlg (has_tlg (has_tlg (has_tlg (has_tlg hK)))))) (has_tlc (has_tlc (has_tlc (has_tlc (has_tlc (has_tlc hE))))))
  rintro _ _ ⟨rfl, rfl⟩
  refine TL.back (by (focus ((repeat (first | assumption | exact Ent.refl _ | apply Ent.tail)); done))) ?_
  refine m_take (At.mk : At 22) ?_; refine m_take (At.mk : At 23) ?_
  refine TA.done (by kernel_rfl) ?_
  refine m_run ?_
  (apply TK.retS1; exact rfl; exact rfl; (exact m_val))
  · exact ⟨_, rfl, rfl, rfl⟩
  · (repeat (first | exact List.Sublist.refl _ | apply List.Sublist.cons_cons | apply List.Sublist.cons))
end Go.Proofs.YtdookobgkcnncaaDoor.E
