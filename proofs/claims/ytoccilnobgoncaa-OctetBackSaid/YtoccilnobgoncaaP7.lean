/- OctetBack, whatever is handed in: the walk: it answers true. -/
import Derived.Test.YtoccilnobgoncaaP6
namespace Go.Proofs.Ytoccilnobgoncaa.E
open Go Go.RowKit Go.Proofs
attribute [local irreducible] TK TL TQ TA Fn PV
set_option maxRecDepth 100000 in
theorem back_t (A B C D : Option Addr) (c c' c2 c3 : Nat) (head s tail raw : List UInt8) (n size : Nat) (Γ : List HP) (hs1 : has Γ (srcAt 1 A head.length (bytesV head))) (hs2 : has Γ (srcAt 1 B s.length (bytesV s))) (hs3 : has Γ (srcAt 1 C tail.length (bytesV tail))) (hs4 : has Γ (srcAt 1 D raw.length (bytesV raw))) (hrc : raw.length ≤ c3) (hn : n < 18446744073709551616) (hsz : size < 256) :
    FnV Try.prog 14 [.slice A head.length c, .slice B s.length c', .slice C tail.length c2, .slice D raw.length c3, .int .u64 (n : Int), .int .u8 (size : Int)] Γ fun v Γ' => v = .bool true ∧ Γ' = Γ := by
  refine Fn.enter Try.func14 rfl rfl rfl fun E => ?_
  by_cases v0 : 8192 < head.length
  · refine m_run ?_
    (apply TL.callV; exact rfl; exact callB_of (by kernel_rfl); exact rfl; exact fun _ h => h)
    exact vast_t A head.length c _
    rintro _ Γ ⟨rfl, rfl⟩
    refine m_run ?_
    (apply TL.callV; exact rfl; exact callB_of (by kernel_rfl); exact rfl; exact fun _ h => h)
    exact works1_t _
    rintro _ Γ ⟨rfl, rfl⟩
    refine m_run ?_
    (apply TK.ret1; exact rfl; exact rfl; (exact m_val))
    exact ⟨_, rfl, rfl, rfl⟩
  · skip
    by_cases v1 : 8192 < s.length
    · refine m_run ?_
      (apply TL.callV; exact rfl; exact callB_of (by kernel_rfl); exact rfl; exact fun _ h => h)
      exact vast_t A head.length c _
      rintro _ Γ ⟨rfl, rfl⟩
      refine m_run ?_
      (apply TL.callV; exact rfl; exact callB_of (by kernel_rfl); exact rfl; exact fun _ h => h)
      exact vast_t B s.length c' _
      rintro _ Γ ⟨rfl, rfl⟩
      refine m_run ?_
      (apply TL.callV; exact rfl; exact callB_of (by kernel_rfl); exact rfl; exact fun _ h => h)
      exact works1_t _
      rintro _ Γ ⟨rfl, rfl⟩
      refine m_run ?_
      (apply TK.ret1; exact rfl; exact rfl; (exact m_val))
      exact ⟨_, rfl, rfl, rfl⟩
    · skip
      by_cases v2 : 8192 < tail.length
      · refine m_run ?_
        (apply TL.callV; exact rfl; exact callB_of (by kernel_rfl); exact rfl; exact fun _ h => h)
        exact vast_t A head.length c _
        rintro _ Γ ⟨rfl, rfl⟩
        refine m_run ?_
        (apply TL.callV; exact rfl; exact callB_of (by kernel_rfl); exact rfl; exact fun _ h => h)
        exact vast_t B s.length c' _
        rintro _ Γ ⟨rfl, rfl⟩
        refine m_run ?_
        (apply TL.callV; exact rfl; exact callB_of (by kernel_rfl); exact rfl; exact fun _ h => h)
        exact vast_t C tail.length c2 _
        rintro _ Γ ⟨rfl, rfl⟩
        refine m_run ?_
        (apply TL.callV; exact rfl; exact callB_of (by kernel_rfl); exact rfl; exact fun _ h => h)
        exact works1_t _
        rintro _ Γ ⟨rfl, rfl⟩
        refine m_run ?_
        (apply TK.ret1; exact rfl; exact rfl; (exact m_val))
        exact ⟨_, rfl, rfl, rfl⟩
      · skip
        by_cases v3 : 8192 < raw.length
        · refine m_run ?_
          (apply TL.callV; exact rfl; exact callB_of (by kernel_rfl); exact rfl; exact fun _ h => h)
          exact vast_t A head.length c _
          rintro _ Γ ⟨rfl, rfl⟩
          refine m_run ?_
          (apply TL.callV; exact rfl; exact callB_of (by kernel_rfl); exact rfl; exact fun _ h => h)
          exact vast_t B s.length c' _
          rintro _ Γ ⟨rfl, rfl⟩
          refine m_run ?_
          (apply TL.callV; exact rfl; exact callB_of (by kernel_rfl); exact rfl; exact fun _ h => h)
          exact vast_t C tail.length c2 _
          rintro _ Γ ⟨rfl, rfl⟩
          refine m_run ?_
          (apply TL.callV; exact rfl; exact callB_of (by kernel_rfl); exact rfl; exact fun _ h => h)
          exact vast_t D raw.length c3 _
          rintro _ Γ ⟨rfl, rfl⟩
          refine m_run ?_
          (apply TL.callV; exact rfl; exact callB_of (by kernel_rfl); exact rfl; exact fun _ h => h)
          exact works1_t _
          rintro _ Γ ⟨rfl, rfl⟩
          refine m_run ?_
          (apply TK.ret1; exact rfl; exact rfl; (exact m_val))
          exact ⟨_, rfl, rfl, rfl⟩
        · skip
          refine m_run ?_
          (apply TL.callV; exact rfl; exact callB_of (by kernel_rfl); exact rfl; exact fun _ h => h)
          exact vast_t A head.length c _
          rintro _ Γ ⟨rfl, rfl⟩
          refine m_run ?_
          (apply TL.callV; exact rfl; exact callB_of (by kernel_rfl); exact rfl; exact fun _ h => h)
          exact vast_t B s.length c' _
          rintro _ Γ ⟨rfl, rfl⟩
          refine m_run ?_
          (apply TL.callV; exact rfl; exact callB_of (by kernel_rfl); exact rfl; exact fun _ h => h)
          exact vast_t C tail.length c2 _
          rintro _ Γ ⟨rfl, rfl⟩
          refine m_run ?_
          (apply TL.callV; exact rfl; exact callB_of (by kernel_rfl); exact rfl; exact fun _ h => h)
          exact vast_t D raw.length c3 _
          rintro _ Γ ⟨rfl, rfl⟩
          obtain ⟨k, hk⟩ : ∃ k, 1 + size % 8 = k := ⟨_, rfl⟩
          have hk18 : 1 ≤ k ∧ k ≤ 8 := by omega
          have ek : IntKind.i64.wrap (1 + (IntKind.i64.wrap (size : Int)).tmod 8) = (k : Int) := by rw [i64_nat (k := size) (by omega), show (size : Int).tmod 8 = ((size % 8 : Nat) : Int) from rfl, i64_in (by omega) (by omega)]; omega
          have hvl := varM_len n hn
          have hvs := varM_len s.length (by omega)
          obtain ⟨low, hlow⟩ : ∃ low, n % 2 ^ (8 * k) = low := ⟨_, rfl⟩
          refine m_run ?_
          refine TK.cut (I := fun ρ' Γ' => lk ρ' 0 = .slice A head.length c ∧ lk ρ' 1 = .slice B s.length c' ∧ lk ρ' 2 = .slice C tail.length c2 ∧ lk ρ' 3 = .slice D raw.length c3 ∧ lk ρ' 4 = .int .u64 (n : Int) ∧ lk ρ' 13 = .int .i64 (k : Int) ∧ lk ρ' 14 = .int .u64 (low : Int) ∧ Γ' = Γ) ?_ ?_
          · intro k' hk'
            by_cases h8 : k < 8
            · refine m_run ?_
              refine TL.know (t := 59) (v := .int .u64 ((8 * k : Nat) : Int)) (congrArg (Value.int .u64) (by rw [ek, i64_in (x := 8 * (k : Int)) (by omega) (by omega), u64_in (by omega) (by omega)]; omega)) ?_
              (apply TL.pv; exact rfl; (apply PV.shlN (n := 1) (m := 8 * k); exact rfl; exact rfl; exact rfl; exact (show 8 * k ≤ 64 by omega); exact rfl))
              have hp : (2 : Nat) ^ (8 * k) < 18446744073709551616 := Nat.lt_of_le_of_lt (Nat.pow_le_pow_right (by decide) (show 8 * k ≤ 56 by omega)) (by decide)
              have hp0 : 0 < (2 : Nat) ^ (8 * k) := Nat.two_pow_pos _
              refine TL.know (t := 60) (v := .int .u64 ((2 ^ (8 * k) : Nat) : Int)) (congrArg (Value.int .u64) (congrArg Nat.cast (by rw [Nat.one_mul]; exact Nat.mod_eq_of_lt hp))) ?_
              (apply TL.pv; exact rfl; (apply PV.remN (n := n) (m := 2 ^ (8 * k)); exact rfl; exact rfl; exact rfl; omega))
              rw [hlow]
              refine m_run ?_
              exact hk' _ _ ⟨rfl, rfl, rfl, rfl, rfl, congrArg (Value.int .i64) ek, rfl, rfl⟩
            · have hk8 : k = 8 := by omega
              have hl : n = low := by rw [← hlow, hk8]; exact (Nat.mod_eq_of_lt (by omega)).symm
              refine m_run ?_
              exact hk' _ _ ⟨rfl, rfl, rfl, rfl, rfl, congrArg (Value.int .i64) ek, congrArg (fun z : Nat => Value.int .u64 (z : Int)) hl, rfl⟩
          rintro ρ' Γ ⟨e0, e1, e2, e3, e4, e13, e14, rfl⟩
          refine TK.know7 e0 e1 e2 e3 e4 e13 e14 ?_
          have hpm : putM head n k = head ++ putB n k k := putM_in hk18
          have hpl : (putM head n k).length = head.length + k := by rw [hpm, List.length_append, putB_length]
          refine m_run ?_
          (apply TL.callV; exact rfl; exact callB_of (by kernel_rfl); exact rfl; exact fun _ h => h)
          exact put_t A head.length c head n k _ hs1 hn (by omega)
          rintro _ _ ⟨A1, d1, rfl, hd1, rfl⟩
          refine m_run ?_
          (apply TL.callV; exact rfl; exact callB_of (by kernel_rfl); exact rfl; exact fun _ h => h)
          exact putvar_t A1 _ d1 (putM head n k) n _ (has_bs 0 rfl) hn (by omega)
          rintro _ _ ⟨A2, d2, rfl, hd2, rfl⟩
          have hbl : (putM head n k ++ varM n).length = head.length + k + (varM n).length := by rw [List.length_append, hpl]
          refine m_run ?_
          (apply TL.callV; exact rfl; exact callB_of (by kernel_rfl); exact rfl; exact fun _ h => h)
          exact putbytes_t A2 B _ d2 s.length c' (putM head n k ++ varM n) s _ (has_bs 0 rfl) (has_tls (has_tls hs2)) (by omega) (by omega)
          rintro _ _ ⟨A3, d3, rfl, hd3, rfl⟩
          have hcl : (putM head n k ++ varM n ++ varM s.length ++ s).length = head.length + k + (varM n).length + (varM s.length).length + s.length := by rw [List.length_append, List.length_append, hbl]
          refine m_run ?_
          (apply TL.buildSlice; exact rfl; exact tb rfl; exact rfl; exact tb rfl; exact rfl; exact rfl; exact rfl; exact rfl; (exact m_lst))
          intro b1
          refine m_run ?_
          (apply TL.appB 0; exact rfl; exact rfl; exact tb rfl; exact rfl; exact tb rfl; exact rfl; exact rfl; exact rfl; exact rfl; exact fun _ h => bs_row (l := []) rfl rfl (by decide) h; exact rfl; (exact m_hsrc))
          · rw [List.length_nil]; omega
          · exact fun _ => (rfl : _ = _ :: _)
          intro A4 d4 hd4
          rw [List.nil_append] at hd4 ⊢
          refine m_run ?_
          (apply TL.appB 0; exact rfl; exact rfl; exact tb rfl; exact rfl; exact tb rfl; exact rfl; exact rfl; exact rfl; exact rfl; exact fun _ h => h; exact rfl; (exact m_hsrc))
          · omega
          · exact fun _ => (rfl : _ = _ :: _)
          intro A5 d5 hd5
          obtain ⟨al, hal⟩ : ∃ al, putM head n k ++ varM n ++ varM s.length ++ s ++ tail = al := ⟨_, rfl⟩
          have hall : al.length = head.length + k + (varM n).length + (varM s.length).length + s.length + tail.length := by rw [← hal, List.length_append, hcl]
          rw [hal] at hd5 ⊢
          refine m_run ?_
          (apply TL.callV; exact rfl; exact callB_of (by kernel_rfl); exact rfl; exact fun _ h => h)
          exact take1_t A5 al.length d5 al head.length k _ (has_bs 0 rfl) hd5 (by omega) hk18 (by omega)
          rintro _ _ ⟨rfl, rfl⟩
          have hx : beN ((al.drop head.length).take k) = low := by
            rw [← hal, hpm, List.append_assoc, List.append_assoc, List.append_assoc, List.append_assoc, List.drop_left, List.take_left' (putB_length n k k), beN_put n k k (Nat.le_refl _), Nat.sub_self, Nat.mul_zero, Nat.pow_zero, Nat.div_one, hlow]
          rw [hx]
          refine m_run ?_
          (apply TL.callV; exact rfl; exact callB_of (by kernel_rfl); exact rfl; exact fun _ h => h)
          exact takevar_t A5 al.length d5 al ((putM head n k).length : Nat) _ (has_bs 0 rfl) hd5 (by omega)
          rintro _ _ ⟨rfl, rfl⟩
          have hy : takeV al ((putM head n k).length : Nat) = (n, (putM head n k).length + (varM n).length, 0) := by
            rw [← hal, List.append_assoc, List.append_assoc]
            exact takeV_put _ _ n hn
          rw [show tkV (takeV al ((putM head n k).length : Nat)) = .tuple #[.int .u64 (n : Int), .int .i64 (((putM head n k).length + (varM n).length : Nat) : Int), .int .i64 0] by rw [hy]; rfl]
          refine m_run ?_
          (apply TL.callV; exact rfl; exact callB_of (by kernel_rfl); exact rfl; exact fun _ h => h)
          exact takebytes_t A5 al.length d5 al ((putM head n k ++ varM n).length : Nat) s.length _ (has_bs 0 rfl) hd5 (by omega) (by omega) (by omega)
          have hz : takeBy al ((putM head n k ++ varM n).length : Nat) s.length = (s, (putM head n k ++ varM n ++ varM s.length ++ s).length, 0) := by
            rw [← hal]
            exact takeBy_put (putM head n k ++ varM n) s tail (by omega)
          rw [hz]
          rintro _ _ ⟨A6, d6, rfl, hd6, rfl⟩
          refine m_run ?_
          (apply TL.callV; exact rfl; exact callB_of (by kernel_rfl); exact rfl; exact fun _ h => h)
          exact takevar_t D raw.length c3 raw 0 _ (has_tls (has_tls (has_tls (has_tls (has_tls hs4))))) hrc (by omega)
          rintro _ _ ⟨rfl, rfl⟩
          obtain ⟨⟨m, nx, e⟩, hT⟩ : ∃ x, takeV raw 0 = x := ⟨_, rfl⟩
          have he5 := takeV_e hT
          rw [show tkV (takeV raw 0) = .tuple #[.int .u64 (m : Int), .int .i64 (nx : Int), .int .i64 (e : Int)] by rw [hT]; rfl]
          refine m_run ?_
          refine TK.weak (Δ := Γ) (show Ent _ Γ by (focus ((repeat (first | assumption | exact Ent.refl _ | apply Ent.tail)); done))) ?_
          refine TK.cut (I := fun ρ' Γ' => lk ρ' 3 = .slice D raw.length c3 ∧ lk ρ' 176 = .bool false ∧ Γ' = Γ) ?_ ?_
          · intro k' hk'
            refine TK.drawS mixed rfl ?_
            refine m_take (At.mk : At 0) ?_; refine m_take (At.mk : At 1) ?_; refine m_take (At.mk : At 2) ?_
            by_cases he : e = 0
            · subst he
              obtain ⟨hm, hvm, hn1, hn2⟩ := takeV_back hT
              have hp : has Γ (srcAt 1 D nx (bytesV (raw.take nx))) := has_imp hs4 fun m hm => by
                have := src_take hm (k := nx) (by omega)
                rwa [Nat.mul_one, ← bytesV_take] at this
              refine TA.isT 157 rfl rfl ?_
              refine m_take (At.mk : At 3) ?_; refine m_take (At.mk : At 4) ?_; refine m_take (At.mk : At 5) ?_; refine m_take (At.mk : At 6) ?_; refine m_take (At.mk : At 7) ?_
              refine TA.isF 162 rfl (decide_eq_false (by omega)) ?_
              refine m_take (At.mk : At 8) ?_; refine m_take (At.mk : At 9) ?_; refine m_take (At.mk : At 10) ?_; refine m_take (At.mk : At 11) ?_
              refine TA.isF 166 rfl (decide_eq_false (by omega)) ?_
              refine m_take (At.mk : At 12) ?_; refine m_take (At.mk : At 15) ?_; refine m_take (At.mk : At 16) ?_
              (apply TA.takeY (At.mk : At 17); exact rfl; exact rfl; exact rfl; exact rfl; exact rfl; kernel_rfl; ((focus ((repeat (first | assumption | exact Ent.refl _ | apply Ent.tail)); done))); (apply PV.sliceS (i := 0) (j := nx); exact rfl; exact tb rfl; exact rfl; exact tb rfl; exact .none; exact .some rfl; exact (by omega); exact (by omega)))
              rw [if_neg (by omega), show D.map (fun a => a.add (0 * 1)) = D by cases D <;> simp [Addr.add]]
              (apply TA.takeY (At.mk : At 18); exact rfl; exact rfl; exact rfl; exact rfl; exact rfl; kernel_rfl; ((focus ((repeat (first | assumption | exact Ent.refl _ | apply Ent.tail)); done))); (apply PV.convBS (Γ := Γ); exact rfl; exact tb rfl; exact rfl; exact tb rfl; exact rfl; exact tb rfl; exact rfl; exact hp))
              (apply TA.one 13; kernel_rfl; exact rfl)
              refine m_run ?_
              (apply TL.callV; exact rfl; exact callB_of (by kernel_rfl); exact rfl; exact fun _ h => h)
              exact putvar_t none 0 0 [] m _ (has_srcnil _ _) hm (by simp)
              rintro _ _ ⟨A7, d7, rfl, hd7, rfl⟩
              refine m_run ?_
              refine TL.back (by (focus ((repeat (first | assumption | exact Ent.refl _ | apply Ent.tail)); done))) ?_
              (apply TA.one 14; kernel_rfl; exact rfl)
              refine m_run ?_
              refine TL.back (by (focus ((repeat (first | assumption | exact Ent.refl _ | apply Ent.tail)); done))) ?_
              refine m_take (At.mk : At 19) ?_; refine m_take (At.mk : At 20) ?_; refine m_take (At.mk : At 21) ?_
              refine TA.done (by kernel_rfl) ?_
              refine TK.weak (Δ := Γ) (show Ent _ Γ by (focus ((repeat (first | assumption | exact Ent.refl _ | apply Ent.tail)); done))) ?_
              exact hk' _ _ ⟨rfl, congrArg Value.bool (not_f (decide_eq_true (by rw [List.nil_append, hvm]))), rfl⟩
            · refine TA.isF 157 rfl (beq_eq_false_iff_ne.2 (by omega)) ?_
              refine m_take (At.mk : At 3) ?_; refine m_take (At.mk : At 4) ?_; refine m_take (At.mk : At 5) ?_; refine m_take (At.mk : At 6) ?_; refine m_take (At.mk : At 7) ?_; refine m_take (At.mk : At 8) ?_; refine m_take (At.mk : At 9) ?_; refine m_take (At.mk : At 10) ?_; refine m_take (At.mk : At 11) ?_; refine m_take (At.mk : At 12) ?_; refine m_take (At.mk : At 13) ?_; refine m_take (At.mk : At 14) ?_; refine m_take (At.mk : At 15) ?_; refine m_take (At.mk : At 16) ?_; refine m_take (At.mk : At 17) ?_; refine m_take (At.mk : At 18) ?_; refine m_take (At.mk : At 19) ?_; refine m_take (At.mk : At 20) ?_; refine m_take (At.mk : At 21) ?_
              refine TA.done (by kernel_rfl) ?_
              exact hk' _ _ ⟨rfl, rfl, rfl⟩
          rintro ρ' Γ ⟨e3, e176, rfl⟩
          refine TK.know2 e3 e176 ?_
          refine m_run ?_
          (apply TL.callV; exact rfl; exact callB_of (by kernel_rfl); exact rfl; exact fun _ h => h)
          exact takebytes_t D raw.length c3 raw 0 raw.length _ hs4 hrc (by omega) (by omega) (by omega)
          obtain ⟨⟨t, en, e'⟩, hT2⟩ : ∃ x, takeBy raw 0 raw.length = x := ⟨_, rfl⟩
          rw [hT2]
          rintro v8 Γ8 h8
          obtain ⟨A8, d8, rfl, hd8, rfl⟩ : ∃ A c, v8 = .tuple #[.slice A t.length c, .int .i64 (en : Int), .int .i64 (e' : Int)] ∧ t.length ≤ c ∧ Γ8 = bsA 5 (.slice A t.length c) t :: Γ := h8
          refine m_run ?_
          refine TK.cut (I := fun ρ' Γ' => lk ρ' 12 = .bool true ∧ Γ' = Γ) ?_ ?_
          · intro k' hk'
            refine TK.drawS mixed rfl ?_
            refine m_take (At.mk : At 0) ?_; refine m_take (At.mk : At 1) ?_; refine m_take (At.mk : At 2) ?_
            by_cases he : e' = 0
            · subst he
              obtain ⟨hb1, hb2, hb3⟩ := takeBy_back hT2
              have hp : has Γ (srcAt 1 D en (bytesV (raw.take en))) := has_imp hs4 fun m hm => by
                have := src_take hm (k := en) (by omega)
                rwa [Nat.mul_one, ← bytesV_take] at this
              refine TA.isF 187 rfl rfl ?_
              refine m_take (At.mk : At 3) ?_; refine m_take (At.mk : At 4) ?_; refine m_take (At.mk : At 5) ?_; refine m_take (At.mk : At 6) ?_; refine m_take (At.mk : At 7) ?_
              refine TA.isT 192 rfl (decide_eq_true (by omega)) ?_
              refine m_take (At.mk : At 8) ?_; refine m_take (At.mk : At 9) ?_; refine m_take (At.mk : At 10) ?_; refine m_take (At.mk : At 11) ?_
              refine TA.isT 196 rfl (decide_eq_true (by omega)) ?_
              refine m_take (At.mk : At 12) ?_; refine m_take (At.mk : At 15) ?_; refine m_take (At.mk : At 16) ?_
              (apply TA.takeY (At.mk : At 17); exact rfl; exact rfl; exact rfl; exact rfl; exact rfl; kernel_rfl; ((focus ((repeat (first | assumption | exact Ent.refl _ | apply Ent.tail)); done))); (apply PV.sliceS (i := 0) (j := en); exact rfl; exact tb rfl; exact rfl; exact tb rfl; exact .none; exact .some rfl; exact (by omega); exact (by omega)))
              rw [if_neg (by omega), show D.map (fun a => a.add (0 * 1)) = D by cases D <;> simp [Addr.add]]
              (apply TA.takeY (At.mk : At 18); exact rfl; exact rfl; exact rfl; exact rfl; exact rfl; kernel_rfl; ((focus ((repeat (first | assumption | exact Ent.refl _ | apply Ent.tail)); done))); (apply PV.convBS (Γ := _ :: Γ); exact rfl; exact tb rfl; exact rfl; exact tb rfl; exact rfl; exact tb rfl; exact rfl; exact has_tls hp))
              (apply TA.one 13; kernel_rfl; exact rfl)
              have hbl : (varM t.length ++ t).length = en := by rw [hb1, List.length_take]; omega
              have hbl2 : t.length ≤ en := by rw [← hbl, List.length_append]; omega
              refine m_run ?_
              (apply TL.callV; exact rfl; exact callB_of (by kernel_rfl); exact rfl; exact fun _ h => h)
              exact putbytes_t none A8 0 0 t.length d8 [] t _ (has_srcnil _ _) (has_bs 0 rfl) (by simp) (by omega)
              rintro _ _ ⟨A7, d7, rfl, hd7, rfl⟩
              refine m_run ?_
              refine TL.back (by (focus ((repeat (first | assumption | exact Ent.refl _ | apply Ent.tail)); done))) ?_
              (apply TA.one 14; kernel_rfl; exact rfl)
              refine m_run ?_
              refine TL.back (by (focus ((repeat (first | assumption | exact Ent.refl _ | apply Ent.tail)); done))) ?_
              refine m_take (At.mk : At 19) ?_; refine m_take (At.mk : At 20) ?_; refine m_take (At.mk : At 21) ?_
              refine TA.isT 206 rfl (decide_eq_true (by rw [List.nil_append, hb1])) ?_
              refine m_take (At.mk : At 22) ?_
              (apply TA.one 23; kernel_rfl; exact rfl)
              refine m_run ?_
              (apply TL.callV; exact rfl; exact callB_of (by kernel_rfl); exact rfl; exact fun _ h => h)
              exact works1_t _
              rintro _ Γ9 ⟨rfl, rfl⟩
              refine m_run ?_
              refine TL.back (by (focus ((repeat (first | assumption | exact Ent.refl _ | apply Ent.tail)); done))) ?_
              refine m_take (At.mk : At 24) ?_; refine m_take (At.mk : At 25) ?_
              refine TA.done (by kernel_rfl) ?_
              refine TK.weak (Δ := Γ) (show Ent _ Γ by (focus ((repeat (first | assumption | exact Ent.refl _ | apply Ent.tail)); done))) ?_
              exact hk' _ _ ⟨rfl, rfl⟩
            · refine TA.isT 187 rfl (bne_iff_ne.2 (by omega)) ?_
              refine m_take (At.mk : At 3) ?_; refine m_take (At.mk : At 4) ?_; refine m_take (At.mk : At 5) ?_; refine m_take (At.mk : At 6) ?_; refine m_take (At.mk : At 7) ?_; refine m_take (At.mk : At 8) ?_; refine m_take (At.mk : At 9) ?_; refine m_take (At.mk : At 10) ?_; refine m_take (At.mk : At 11) ?_; refine m_take (At.mk : At 12) ?_; refine m_take (At.mk : At 13) ?_; refine m_take (At.mk : At 14) ?_; refine m_take (At.mk : At 15) ?_; refine m_take (At.mk : At 16) ?_; refine m_take (At.mk : At 17) ?_; refine m_take (At.mk : At 18) ?_; refine m_take (At.mk : At 19) ?_; refine m_take (At.mk : At 20) ?_; refine m_take (At.mk : At 21) ?_; refine m_take (At.mk : At 22) ?_
              (apply TA.one 23; kernel_rfl; exact rfl)
              refine m_run ?_
              (apply TL.callV; exact rfl; exact callB_of (by kernel_rfl); exact rfl; exact fun _ h => h)
              exact works1_t _
              rintro _ Γ9 ⟨rfl, rfl⟩
              refine m_run ?_
              refine TL.back (by (focus ((repeat (first | assumption | exact Ent.refl _ | apply Ent.tail)); done))) ?_
              refine m_take (At.mk : At 24) ?_; refine m_take (At.mk : At 25) ?_
              refine TA.done (by kernel_rfl) ?_
              refine TK.weak (Δ := Γ) (show Ent _ Γ by (focus ((repeat (first | assumption | exact Ent.refl _ | apply Ent.tail)); done))) ?_
              exact hk' _ _ ⟨rfl, rfl⟩
          rintro ρ' Γ ⟨e12, rfl⟩
          refine TK.know e12 ?_
          refine m_run ?_
          (apply TK.ret1; exact rfl; exact rfl; (exact m_val))
          exact ⟨_, rfl, rfl, rfl⟩
end Go.Proofs.Ytoccilnobgoncaa.E
