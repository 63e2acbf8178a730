/- WireTurned: walked. -/
import Derived.Test.YtokggdgagfmacaaXq
namespace Go.Proofs.Ytokggdgagfmacaa.E
open Go Go.RowKit Go.Proofs
attribute [local irreducible] TK TL TQ TA TB Fn PV
theorem sayB_pos (y : Sy) : 0 < (sayB y).length := by simp only [sayB, List.length_append, List.length_singleton]; omega
theorem rlB_max {c : Rl} (h : c.fit) (hm : mayR c = true) : 0 < (rlB c).length ∧ (rlB c).length ≤ 387 := by
  obtain ⟨hm8, hmh, hms⟩ := mayR_inv hm
  have h0 := sayB_pos c.h
  have h1 := sayB_len h.1
  have h2 : (cdsB c.l).length ≤ c.l.length * 43 := flatB_len _ fun x hx => cdB_len (h.2 x hx) (hms x hx)
  simp only [rlB, List.length_append, List.length_singleton]; omega
set_option maxRecDepth 100000 in
set_option maxHeartbeats 16000000 in
theorem wturned_t (r : Rl) (at_ : Nat) (y : UInt8) (Γ : List HP) (hf : r.ok Γ) (hfit : r.fit) (hat : at_ < 65536) :
    FnV Try.prog 6 [.agg r.cells.toArray, .int .u16 (at_ : Int), .int .u8 (y.toNat : Int)] Γ fun v Γ' => v = .bool true ∧ Γ' = Γ := by
  refine Fn.enter Try.func6 rfl rfl rfl fun E => ?_
  have hy8 := y.toNat_lt
  refine m_run ?_
  (apply TL.box; exact rfl; exact rfl; (exact m_lst))
  intro b3
  refine TL.imp (Δ := row b3 [.bool r.h.s, .bool r.h.w.v, .int .u32 (r.h.w.n : Int), .int .u32 (r.h.a.p : Int), .slice r.h.a.A r.h.a.l.length r.h.a.c, .slice r.A r.l.length r.c] 59 :: Γ) (fun _ h => h) ?_
  refine m_run ?_
  (apply TL.callV; exact rfl; exact callB_of (by kernel_rfl); exact rfl; exact fun _ h => h)
  exact rbigR_t r _ (Rl.ok_tl hf)
  rintro _ _ ⟨rfl, rfl⟩
  cases hb : bigR r with
  | true =>
    refine m_run ?_
    (apply TL.callV; exact rfl; exact callB_of (by kernel_rfl); exact rfl; exact fun _ h => h)
    exact works6_t _
    rintro _ _ ⟨rfl, rfl⟩
    refine m_run ?_
    (apply TK.retS1; exact rfl; exact rfl; (exact m_val))
    · exact ⟨_, rfl, rfl, rfl⟩
    · (repeat (first | exact List.Sublist.refl _ | apply List.Sublist.cons_cons | apply List.Sublist.cons))
  | false =>
    have hsm : r.small := smallR_of hb
    refine m_run ?_
    (apply TL.callV; exact rfl; exact callB_of (by kernel_rfl); exact rfl; exact fun _ h => h)
    exact putrule_t none 0 0 [] r _ (has_srcnil _ _) (Rl.ok_tl hf) hfit hsm (by decide)
    rw [List.nil_append]
    intro v Γ' hput
    cases hm : mayR r with
    | false =>
      obtain ⟨rfl, rfl⟩ := hput.lost hm
      refine m_run ?_
      (apply TL.callV; exact rfl; exact callB_of (by kernel_rfl); exact rfl; exact fun _ h => h)
      exact wmay_t r _ (Rl.ok_tl hf) hsm
      rintro _ _ ⟨rfl, rfl⟩
      rw [hm]
      refine m_run ?_
      (apply TL.callV; exact rfl; exact callB_of (by kernel_rfl); exact rfl; exact fun _ h => h)
      exact works6_t _
      rintro _ _ ⟨rfl, rfl⟩
      refine m_run ?_
      (apply TK.retS1; exact rfl; exact rfl; (exact m_val))
      · exact ⟨_, rfl, rfl, rfl⟩
      · (repeat (first | exact List.Sublist.refl _ | apply List.Sublist.cons_cons | apply List.Sublist.cons))
    | true =>
      obtain ⟨hb0, hb1⟩ := rlB_max hfit hm
      have hcut := fun k (hk : k < (rlB r).length) => cut_r hfit hm hk
      have hback : tookR (rlB r) 0 = (rlVal r, (rlB r).length, 0) := by
        have := back_r (pre := []) (post := []) hfit hm
        simpa using this
      obtain ⟨A1, c1, rfl, hc1, rfl⟩ := hput.got hm
      refine m_run ?_
      (apply TL.callV; exact rfl; exact callB_of (by kernel_rfl); exact rfl; exact fun _ h => h)
      exact wmay_t r _ (Rl.ok_tl (Rl.ok_tl hf)) hsm
      rintro _ _ ⟨rfl, rfl⟩
      rw [hm]
      obtain ⟨l, hl⟩ : ∃ l, rlB r = l := ⟨_, rfl⟩
      rw [hl] at hb0 hb1 hcut hback hc1 ⊢
      obtain ⟨k, hk⟩ : ∃ k, at_ % l.length = k := ⟨_, rfl⟩
      have hkl : k < l.length := by rw [← hk]; exact Nat.mod_lt _ hb0
      refine m_run ?_
      (apply TL.pv; exact rfl; (apply PV.rem; exact rfl; exact rfl; omega))
      refine TL.know (t := 56) (v := .int .i64 (k : Int)) (congrArg (Value.int .i64) (by rw [i64_nat (by omega), ← hk]; rfl)) ?_
      refine m_run ?_
      (apply TL.sliceS (i := 0) (j := k); exact rfl; exact rfl; exact tb rfl; exact rfl; exact tb rfl; exact .none; exact .some rfl; (exact m_hsrc); exact Nat.zero_le _; exact Nat.le_of_lt hkl; exact hc1)
      intro A2 hs2
      have hs3 := has_part (l := l) (i := 0) hs2 (by omega)
      rw [List.drop_zero, Nat.sub_zero] at hs3
      refine m_run ?_
      (apply TL.callV; exact rfl; exact callB_of (by kernel_rfl); exact rfl; exact fun _ h => h)
      exact takerule_t A2 k (c1 - 0) (l.take k) 0 _ hs3 (by omega) (by rw [List.length_take]; omega)
      rw [hcut k hkl]
      rintro _ _ ⟨C0, hC0, hg0, rfl, rfl⟩
      refine TL.sub (List.Sublist.cons _ (List.Sublist.cons _ (List.Sublist.cons _ (List.Sublist.refl _)))) ?_
      refine m_run ?_
      (apply TL.alloc; exact rfl; exact tb rfl; exact (rfl : _ = [_, _, _, _, _, _]))
      intro b10
      refine TL.imp (Δ := row b10 [.bool false, .bool false, .int .u32 0, .int .u32 0, .slice none 0 0, .slice none 0 0] 59 :: _) (fun _ h => h) ?_
      refine m_run ?_
      (apply TL.buildSlice; exact rfl; exact tb rfl; exact rfl; exact tb rfl; exact rfl; exact rfl; exact rfl; exact rfl; (exact m_lst))
      intro b65
      refine m_run ?_
      (apply TL.appB 0; exact rfl; exact rfl; exact tb rfl; exact rfl; exact tb rfl; exact rfl; exact rfl; exact rfl; exact rfl; exact fun _ h => bs_row (l := []) rfl rfl (by decide) h; exact rfl; (exact m_hsrc))
      · simp; omega
      · exact fun _ => (rfl : _ = _ :: _)
      intro A3 c3 hc3
      rw [List.nil_append] at hc3 ⊢
      obtain ⟨ch, hch⟩ : ∃ ch, l[k]? = some ch := ⟨l[k], List.getElem?_eq_getElem hkl⟩
      refine TL.mem fun m0 hm0 => ?_
      obtain ⟨g, rfl⟩ := own_addr hm0 hb0
      clear hm0 m0
      refine TL.imp (Δ := bsA 5 (.slice (some ⟨g, 0, none⟩) l.length c3) l :: _) (fun _ h => h) ?_
      have hcell := has_byte (Γ := bsA 5 (.slice (some ⟨g, 0, none⟩) l.length c3) l :: row b10 [.bool C0.h.s, .bool C0.h.w.v, .int .u32 (C0.h.w.n : Int), .int .u32 (C0.h.a.p : Int), .slice C0.h.a.A C0.h.a.l.length C0.h.a.c, .slice C0.A C0.l.length C0.c] 59 :: bsA 5 (.slice A1 l.length c1) l :: row b3 [.bool r.h.s, .bool r.h.w.v, .int .u32 (r.h.w.n : Int), .int .u32 (r.h.a.p : Int), .slice r.h.a.A r.h.a.l.length r.h.a.c, .slice r.A r.l.length r.c] 59 :: Γ) (has_bs 0 rfl) hch
      simp only [Nat.zero_add] at hcell
      have hc8 := ch.toNat_lt
      refine m_run ?_
      refine TL.know (t := 75) (v := .int .u8 ((ch ^^^ y).toNat : Int)) (congrArg (Value.int .u8) (by rw [bits_xor rfl hc8 hy8, UInt8.toNat_xor])) ?_
      (apply TL.storeOwn 0 k; exact rfl; exact rfl; exact rfl; exact rfl; exact tb rfl; exact rfl; exact (Nat.zero_add _).symm; exact hkl)
      obtain ⟨bad, hbad⟩ : ∃ bad, l.set k (ch ^^^ y) = bad := ⟨_, rfl⟩
      have hbl : bad.length = l.length := by rw [← hbad, List.length_set]
      have hset : ∀ m, own 5 1 (.slice (some ⟨g, 0, none⟩) l.length c3) l.length ((bytesV l).set k (.int .u8 ((ch ^^^ y).toNat : Int))) m → bsA 5 (.slice (some ⟨g, 0, none⟩) bad.length c3) bad m := fun m h => by
        rw [← bytesV_set, hbad] at h
        unfold bsA
        rw [hbl]
        exact h
      refine TL.imp (Δ := bsA 5 (.slice (some ⟨g, 0, none⟩) bad.length c3) bad :: row b10 [.bool C0.h.s, .bool C0.h.w.v, .int .u32 (C0.h.w.n : Int), .int .u32 (C0.h.a.p : Int), .slice C0.h.a.A C0.h.a.l.length C0.h.a.c, .slice C0.A C0.l.length C0.c] 59 :: bsA 5 (.slice A1 l.length c1) l :: row b3 [.bool r.h.s, .bool r.h.w.v, .int .u32 (r.h.w.n : Int), .int .u32 (r.h.a.p : Int), .slice r.h.a.A r.h.a.l.length r.h.a.c, .slice r.A r.l.length r.c] 59 :: Γ) (fun m hm => sep_mono hm hset fun _ h => h) ?_
      refine TL.know (t := 13) (v := .slice (some ⟨g, 0, none⟩) bad.length c3) (by rw [hbl]; rfl) ?_
      have h0 : y.toNat = 0 → bad = l := fun h => by
        have h1 : y = 0 := UInt8.toNat_inj.1 (by rw [h]; rfl)
        subst h1
        obtain ⟨hlt, hget⟩ := List.getElem?_eq_some_iff.1 hch
        rw [← hbad, UInt8.xor_zero, ← hget, List.set_getElem_self]
      clear hbad hcell
      obtain ⟨⟨x, next, e⟩, hT⟩ : ∃ z, tookR bad 0 = z := ⟨_, rfl⟩
      refine m_run ?_
      (apply TL.callV; exact rfl; exact callB_of (by kernel_rfl); exact rfl; exact fun _ h => h)
      exact takerule_t (some ⟨g, 0, none⟩) bad.length c3 bad 0 _ (has_bs 0 rfl) (by omega) (by omega)
      rw [hT]
      intro v Γ2 hv
      obtain ⟨C, hC, hg, rfl, rfl⟩ : ∃ C : Rl, rlVal C = x ∧ C.good ∧ v = .tuple #[.agg C.cells.toArray, .int .i64 (next : Int), .int .i64 (e : Int)] ∧ Γ2 = _ := hv
      refine m_run ?_
      (apply TL.alloc; exact rfl; exact tb rfl; exact (rfl : _ = [_, _, _, _, _, _]))
      intro b14
      refine TL.sub (List.Sublist.cons_cons _ (List.Sublist.cons_cons _ (List.Sublist.cons_cons _ (List.Sublist.cons_cons _ (List.Sublist.cons_cons _ (List.Sublist.cons _ (List.Sublist.cons _ (List.Sublist.cons _ (List.Sublist.refl _))))))))) ?_
      refine TL.imp (Δ := row b14 [.bool false, .bool false, .int .u32 0, .int .u32 0, .slice none 0 0, .slice none 0 0] 59 :: _) (fun _ h => h) ?_
      by_cases he : e = 0
      · subst he
        obtain ⟨hnl, henc, hmay⟩ := got_r hT hC
        have hel : (rlB C).length = next := by rw [henc, List.length_take]; omega
        by_cases hy0 : y.toNat = 0
        all_goals
          refine m_run ?_
          (apply TL.callV; exact rfl; exact callB_of (by kernel_rfl); exact rfl; exact fun _ h => h)
          exact putrule_t none 0 0 [] C _ (has_srcnil _ _) (rl_own 1 2 3 rfl rfl rfl hg) hg.fits hg.small (by decide)
          rw [List.nil_append]
          intro v Γ' hput
          obtain ⟨A4, c4, rfl, hc4, rfl⟩ := hput.got hmay
          refine TL.sub (List.Sublist.cons_cons _ (List.Sublist.cons _ (List.Sublist.cons _ (List.Sublist.cons _ (List.Sublist.cons _ (List.Sublist.refl _)))))) ?_
          refine m_run ?_
          have hs4 : has (bsA 5 (.slice A4 (rlB C).length c4) (rlB C) :: bsA 5 (.slice (some ⟨g, 0, none⟩) bad.length c3) bad :: Γ) _ := has_imp (has_bs (l := bad) 1 rfl) fun m hm => src_part (i := 0) (j := next) (c := c3) hm (Nat.zero_le _) hnl (by omega)
          have hs5 := has_part (l := bad) (i := 0) hs4 (by omega)
          rw [List.drop_zero] at hs5
          refine TK.drawE mixed rfl (bsA 5 (.slice A4 (rlB C).length c4) (rlB C) :: bsA 5 (.slice (some ⟨g, 0, none⟩) bad.length c3) bad :: Γ) ?_
          refine m_take (At.mk : At 0) ?_; refine m_take (At.mk : At 1) ?_; refine m_take (At.mk : At 2) ?_; refine m_take (At.mk : At 3) ?_; refine m_take (At.mk : At 4) ?_; refine m_take (At.mk : At 5) ?_; refine m_take (At.mk : At 6) ?_
          refine TA.isT 115 rfl (decide_eq_true (by omega)) ?_
          refine m_take (At.mk : At 7) ?_; refine m_take (At.mk : At 8) ?_; refine m_take (At.mk : At 9) ?_; refine m_take (At.mk : At 10) ?_; refine m_take (At.mk : At 11) ?_; refine m_take (At.mk : At 12) ?_
          refine TA.isT 121 rfl (beq_iff_eq.2 (by omega)) ?_
          refine m_take (At.mk : At 13) ?_; refine m_take (At.mk : At 14) ?_; refine m_take (At.mk : At 15) ?_
          (apply TA.takeY (At.mk : At 16); exact rfl; exact rfl; exact rfl; exact rfl; exact rfl; kernel_rfl; ((focus ((repeat (first | assumption | exact Ent.refl _ | apply Ent.tail)); done))); (apply PV.convBS; exact rfl; exact tb rfl; exact rfl; exact tb rfl; exact rfl; exact tb rfl; exact rfl; (exact m_hsrc)))
          refine m_take (At.mk : At 17) ?_; refine m_take (At.mk : At 18) ?_
          (apply TA.takeY (At.mk : At 19); exact rfl; exact rfl; exact rfl; exact rfl; exact rfl; kernel_rfl; ((focus ((repeat (first | assumption | exact Ent.refl _ | apply Ent.tail)); done))); (apply PV.sliceS (i := 0) (j := next); exact rfl; exact tb rfl; exact rfl; exact tb rfl; exact .none; exact .some rfl; exact Nat.zero_le _; omega))
          (apply TA.takeY (At.mk : At 20); exact rfl; exact rfl; exact rfl; exact rfl; exact rfl; kernel_rfl; ((focus ((repeat (first | assumption | exact Ent.refl _ | apply Ent.tail)); done))); (apply PV.convBS; exact rfl; exact tb rfl; exact rfl; exact tb rfl; exact rfl; exact tb rfl; exact rfl; exact hs5))
          refine m_take (At.mk : At 21) ?_
          refine TA.isT 130 rfl (decide_eq_true (by rw [henc]; rfl)) ?_
          refine m_take (At.mk : At 22) ?_; refine m_take (At.mk : At 23) ?_
          (apply TA.one 24; kernel_rfl; exact rfl)
          refine m_rrun ?_
          (apply TL.callV; exact rfl; exact callB_of (by kernel_rfl); exact rfl; exact fun _ h => h)
          exact works6_t _
          rintro _ _ ⟨rfl, rfl⟩
          refine TL.back (by (focus ((repeat (first | assumption | exact Ent.refl _ | apply Ent.tail)); done))) ?_
          refine m_take (At.mk : At 25) ?_; refine m_take (At.mk : At 26) ?_
          refine TA.done (by kernel_rfl) ?_
          refine m_run ?_
          (apply TK.retS1; exact rfl; exact rfl; (exact m_val))
          · exact ⟨_, rfl, rfl, rfl⟩
          · (repeat (first | exact List.Sublist.refl _ | apply List.Sublist.cons_cons | apply List.Sublist.cons))
      · obtain ⟨_, rfl, rfl⟩ := tookS_err (k := 0) (Nat.zero_le _) hT he
        have hy0 : ¬ y.toNat = 0 := fun h => by
          rw [h0 h, hback] at hT
          injection hT with _ hT
          injection hT with _ hT
          cases hT
        refine m_run ?_
        (apply TL.callV; exact rfl; exact callB_of (by kernel_rfl); exact rfl; exact fun _ h => h)
        exact works6_t _
        rintro _ _ ⟨rfl, rfl⟩
        refine m_run ?_
        (apply TK.retS1; exact rfl; exact rfl; (exact m_val))
        · exact ⟨_, rfl, rfl, rfl⟩
        · (repeat (first | exact List.Sublist.refl _ | apply List.Sublist.cons_cons | apply List.Sublist.cons))
end Go.Proofs.Ytokggdgagfmacaa.E
