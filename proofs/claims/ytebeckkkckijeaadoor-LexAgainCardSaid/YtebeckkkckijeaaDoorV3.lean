/- LexAgain, walked. -/
import Derived.Test.YtebeckkkckijeaaDoorR9
import Derived.Test.YtebeckkkckijeaaDoorSg
namespace Go.Proofs.YtebeckkkckijeaaDoor.E
open Go Go.RowKit Go.Proofs
attribute [local irreducible] TK TL TQ TA Fn PV
def wipeK (t : List UInt8) (p k : Nat) : List UInt8 := t.take p ++ List.replicate k 32 ++ t.drop (p + k)
theorem wipeK_len {t : List UInt8} {p k : Nat} (h : p + k ≤ t.length) : (wipeK t p k).length = t.length := by simp [wipeK]; omega
theorem wipeK_zero (t : List UInt8) (p : Nat) : wipeK t p 0 = t := by simp [wipeK]
theorem wipeK_set {t : List UInt8} {p k : Nat} (h : p + k < t.length) : (bytesV (wipeK t p k)).set (p + k) (.int .u8 32) = bytesV (wipeK t p (k + 1)) := by
  have h1 : (bytesV (wipeK t p k)).set (p + k) (.int .u8 32) = bytesV ((wipeK t p k).set (p + k) 32) := by
    unfold bytesV
    rw [List.map_set]; rfl
  rw [h1]
  congr 1
  unfold wipeK
  have hl : (t.take p ++ List.replicate k (32 : UInt8)).length = p + k := by simp; omega
  rw [List.set_append_right _ _ (by omega), hl, Nat.sub_self]
  obtain ⟨c, hc⟩ : ∃ c, t[p + k]? = some c := ⟨t[p + k], List.getElem?_eq_getElem h⟩
  rw [List.drop_eq_getElem_cons h, List.set_cons_zero, List.replicate_succ', Nat.add_assoc p k 1]
  simp
theorem wipe1_K (t : List UInt8) (w : Wrd) : wipe1 t w = wipeK t w.pos w.text.length := rfl
theorem wipes_len : ∀ (l : List Wrd) (t : List UInt8), (∀ w ∈ l, w.pos + w.text.length ≤ t.length) → (l.foldl wipe1 t).length = t.length
  | [], _, _ => rfl
  | w :: l, t, h => by
    have h1 : (wipe1 t w).length = t.length := wipeK_len (h w (List.mem_cons_self ..))
    rw [List.foldl_cons, wipes_len l (wipe1 t w) fun v hv => by rw [h1]; exact h v (List.mem_cons_of_mem _ hv), h1]
set_option maxRecDepth 100000 in
set_option maxHeartbeats 4000000 in
theorem again_t (text : List UInt8) (Γ : List HP) (hM : gMeans Γ) (hK : gMarks Γ) :
    FnV Tryd.prog 4 [.string (S text)] Γ fun v Γ' => v = .bool true ∧ Γ' = Γ := by
  refine Fn.enter Tryd.func4 rfl rfl rfl fun E => ?_
  by_cases vt : 4096 < text.length
  · refine m_run ?_
    (apply TL.callV; exact rfl; exact callB_of (by kernel_rfl); exact rfl; exact fun _ h => h)
    exact works7_t _ hM hK
    rintro _ _ ⟨rfl, rfl⟩
    refine m_run ?_
    (apply TK.ret1; exact rfl; exact rfl; (exact m_val))
    exact ⟨_, rfl, rfl, rfl⟩
  refine m_run ?_
  cases hx : lexA 0 text with
  | error e =>
    have he := lexA_err hx
    (apply TL.callV; exact rfl; exact callB_of (by kernel_rfl); exact rfl; exact fun _ h => h)
    exact words_er hx _ (by omega) hM hK
    rintro _ Γ ⟨rfl, rfl⟩
    refine m_run ?_
    (apply TL.callV; exact rfl; exact callB_of (by kernel_rfl); exact rfl; exact fun _ h => h)
    exact works7_t _ hM hK
    rintro _ _ ⟨rfl, rfl⟩
    refine m_run ?_
    (apply TK.ret1; exact rfl; exact rfl; (exact m_val))
    exact ⟨_, rfl, rfl, rfl⟩
  | ok l =>
    obtain ⟨hst, hgood, s', hwipe, hsl, hbl⟩ := lexA_facts text.length 0 [] text l (Nat.le_refl _) rfl hx
    rw [List.nil_append] at hst hwipe
    rw [List.nil_append] at hwipe
    obtain ⟨m, hm, hal⟩ := lexA_join l 0 hgood
    have hml : m.length = l.length := by
      have := congrArg List.length hal
      simpa using this
    have hjl := words_join hx
    have hll := words_len hx
    have hpos := words_pos hx
    (apply TL.callV; exact rfl; exact callB_of (by kernel_rfl); exact rfl; exact fun _ h => h)
    exact words_ok hx _ (by omega) hM hK
    rintro _ _ ⟨A1, c1, hc1, rfl, rfl⟩
    refine m_run ?_
    (apply TL.convSBw; exact rfl; exact rfl; exact tb rfl; exact tb rfl; exact rfl; exact tb rfl; exact rfl)
    intro b6 c6 hc6
    refine m_run ?_
    apply TK.iter (fun j ρ' Γ' => ∃ (i last : Nat) (R : List UInt8), i + j = l.length ∧ R = (l.take i).foldl wipe1 text ∧ last ≤ text.length ∧ standing text last (l.drop i) ∧ lk ρ' 0 = .string (S text) ∧ lk ρ' 3 = .slice A1 l.length c1 ∧ lk ρ' 4 = .int .i64 0 ∧ lk ρ' 6 = .slice (some ⟨b6, 0, none⟩) text.length c6 ∧ lk ρ' 7 = .int .i64 (last : Int) ∧ lk ρ' 8 = .int .i64 (i : Int) ∧ Γ' = rowF b6 (bytesV (R)) 5 :: ownW (.slice A1 l.length c1) l :: Γ) l.length
    · exact ⟨0, 0, text, Nat.zero_add _, rfl, Nat.zero_le _, hst, rfl, rfl, rfl, rfl, rfl, rfl, rfl⟩
    rintro j IH ρ' _ ⟨i, last, R, hij, hR, hlast, hstd, e0, e3, e4, e6, e7, e8, rfl⟩
    have hRl : R.length = text.length := by
      rw [hR]
      exact wipes_len _ _ fun w hw => hpos w (List.mem_of_mem_take hw)
    refine TK.know6 e0 e3 e4 e6 e7 e8 ?_
    have hs0 : ∀ Q, has (rowF b6 (bytesV Q) 5 :: ownW (.slice A1 l.length c1) l :: Γ) (srcAt 3 A1 l.length (wcells l)) := fun Q => has_at (up_src _ _ _ _) 1 rfl fun _ h => own_src h
    by_cases hi : i < l.length
    · obtain ⟨w, hw⟩ : ∃ w, l[i]? = some w := ⟨l[i], List.getElem?_eq_getElem hi⟩
      rw [List.drop_eq_getElem_cons hi, show l[i] = w from Option.some.inj ((List.getElem?_eq_getElem hi).symm.trans hw)] at hstd
      obtain ⟨n0, nl, np, nt, hstd2⟩ := hstd
      have hstep : (l.take (i + 1)).foldl wipe1 text = wipe1 R w := by
        rw [List.take_add_one, hw, List.foldl_append, ← hR]; rfl
      refine TK.mem fun m0 hm0 => ?_
      obtain ⟨b1, o1, rfl⟩ := src_some (hs0 R m0 hm0) (by rw [wcells_len]; omega)
      clear hm0 m0
      obtain ⟨h1, h2, h3⟩ := has_wd (hs0 R) hw
      refine m_run ?_
      refine TK.drawS mixed rfl ?_
      refine m_take (At.mk : At 0) ?_; refine m_take (At.mk : At 1) ?_
      refine TA.isF 65 rfl (beq_eq_false_iff_ne.2 (by omega)) ?_
      refine m_take (At.mk : At 2) ?_; refine m_take (At.mk : At 3) ?_; refine m_take (At.mk : At 4) ?_; refine m_take (At.mk : At 5) ?_; refine m_take (At.mk : At 6) ?_; refine m_take (At.mk : At 7) ?_; refine m_take (At.mk : At 8) ?_; refine m_take (At.mk : At 9) ?_
      refine TA.isF 73 rfl (decide_eq_false (by omega)) ?_
      refine m_take (At.mk : At 10) ?_; refine m_take (At.mk : At 11) ?_; refine m_take (At.mk : At 12) ?_; refine m_take (At.mk : At 13) ?_; refine m_take (At.mk : At 14) ?_; refine m_take (At.mk : At 15) ?_; refine m_take (At.mk : At 16) ?_; refine m_take (At.mk : At 17) ?_; refine m_take (At.mk : At 18) ?_; refine m_take (At.mk : At 19) ?_; refine m_take (At.mk : At 20) ?_
      refine TA.know (t := 84) (v := .int .i64 ((text.length - w.text.length : Nat) : Int)) (congrArg (Value.int .i64) (by rw [i64_in (by omega) (by omega)]; omega)) ?_
      refine m_take (At.mk : At 21) ?_
      refine TA.isF 85 rfl (decide_eq_false (by omega)) ?_
      refine m_take (At.mk : At 22) ?_; refine m_take (At.mk : At 23) ?_; refine m_take (At.mk : At 24) ?_; refine m_take (At.mk : At 25) ?_; refine m_take (At.mk : At 26) ?_; refine m_take (At.mk : At 27) ?_; refine m_take (At.mk : At 28) ?_; refine m_take (At.mk : At 29) ?_; refine m_take (At.mk : At 30) ?_; refine m_take (At.mk : At 31) ?_; refine m_take (At.mk : At 32) ?_; refine m_take (At.mk : At 33) ?_; refine m_take (At.mk : At 34) ?_; refine m_take (At.mk : At 35) ?_; refine m_take (At.mk : At 36) ?_
      refine TA.know (t := 100) (v := .int .i64 ((w.pos + w.text.length : Nat) : Int)) (congrArg (Value.int .i64) (by rw [i64_in (by omega) (by omega)]; omega)) ?_
      (apply TA.takeY (At.mk : At 37); exact rfl; exact rfl; exact rfl; exact rfl; exact rfl; kernel_rfl; ((focus ((repeat (first | assumption | exact Ent.refl _ | apply Ent.tail)); done))); (apply PV.sliceStr (i := w.pos) (j := w.pos + w.text.length) (l := text); exact rfl; exact tb rfl; exact rfl; exact .some rfl; exact .some rfl; exact (by omega); exact (by omega)))
      refine TA.know (t := 101) (v := .string (S w.text)) (congrArg (fun z => Value.string (S z)) (by rw [Nat.add_sub_cancel_left]; exact nt)) ?_
      refine m_take (At.mk : At 38) ?_; refine m_take (At.mk : At 39) ?_; refine m_take (At.mk : At 40) ?_; refine m_take (At.mk : At 41) ?_; refine m_take (At.mk : At 42) ?_; refine m_take (At.mk : At 43) ?_
      refine TA.isF 107 rfl (by simp) ?_
      refine m_take (At.mk : At 44) ?_
      refine TA.done (by kernel_rfl) ?_
      refine m_run ?_
      apply TK.iter (fun j ρ' Γ' => ∃ k : Nat, k + j = w.text.length ∧ lk ρ' 0 = .string (S text) ∧ lk ρ' 3 = .slice (some ⟨b1, o1, none⟩) l.length c1 ∧ lk ρ' 4 = .int .i64 0 ∧ lk ρ' 6 = .slice (some ⟨b6, 0, none⟩) text.length c6 ∧ lk ρ' 8 = .int .i64 (i : Int) ∧ lk ρ' 9 = .int .i64 (w.text.length : Int) ∧ lk ρ' 10 = .int .i64 (k : Int) ∧ Γ' = rowF b6 (bytesV (wipeK R w.pos k)) 5 :: ownW (.slice (some ⟨b1, o1, none⟩) l.length c1) l :: Γ) w.text.length
      · exact ⟨0, Nat.zero_add _, rfl, rfl, rfl, rfl, rfl, rfl, rfl, by rw [wipeK_zero]⟩
      rintro j2 IH2 ρ2 _ ⟨k, hkj, f0, f3, f4, f6, f8, f9, f10, rfl⟩
      refine TK.know7 f0 f3 f4 f6 f8 f9 f10 ?_
      obtain ⟨_, _, h3'⟩ := has_wd (hs0 (wipeK R w.pos k)) hw
      by_cases hk : k < w.text.length
      · have hwl : (bytesV (wipeK R w.pos k)).length = text.length := by rw [bytesV_length, wipeK_len (by omega), hRl]
        refine m_run ?_
        refine TL.know (t := 121) (v := .int .i64 ((w.pos + k : Nat) : Int)) (congrArg (Value.int .i64) (by rw [i64_in (by omega) (by omega)]; omega)) ?_
        refine m_run ?_
        (apply TL.storeF 0 (l' := bytesV (wipeK R w.pos (k + 1))); exact rfl; exact rfl; exact rfl; exact rfl; exact tb rfl; exact rfl; exact (by rw [hwl]; omega); exact wipeK_set (by omega); exact rfl)
        refine m_run ?_
        exact IH2 (j2 - 1) _ _ (by omega) ⟨k + 1, by omega, rfl, rfl, rfl, rfl, rfl, rfl, congrArg (Value.int .i64) (i64_succ k (by omega)), rfl⟩
      obtain rfl : k = w.text.length := by omega
      rw [← wipe1_K] at h3' ⊢
      clear IH2
      refine m_run ?_
      refine IH (j - 1) _ _ (by omega) ⟨i + 1, w.pos + w.text.length, wipe1 R w, by omega, hstep.symm, by omega, hstd2, rfl, rfl, rfl, rfl, congrArg (Value.int .i64) (by rw [i64_in (by omega) (by omega)]; omega), congrArg (Value.int .i64) (i64_succ i (by omega)), rfl⟩
    obtain rfl : i = l.length := by omega
    rw [List.take_length, hwipe] at hR
    subst hR
    clear IH
    refine m_run ?_
    refine TL.know (t := 131) (v := .slice (some ⟨b6, 0, none⟩) R.length c6) (congrArg (fun z : Nat => Value.slice (some ⟨b6, 0, none⟩) z c6) hRl.symm) ?_
    (apply TL.pv; exact rfl; (apply PV.convBS; exact rfl; exact tb rfl; exact rfl; exact tb rfl; exact rfl; exact tb rfl; exact rfl; exact has_at (up_src _ _ _ _) 0 rfl (fun _ h => rowF_src h (bytesV_length R))))
    refine m_run ?_
    have hM1 : gMeans (rowF b6 (bytesV (R)) 5 :: ownW (.slice A1 l.length c1) l :: Γ) := gMeans_tail (gMeans_tail hM)
    have hK1 : gMarks (rowF b6 (bytesV (R)) 5 :: ownW (.slice A1 l.length c1) l :: Γ) := gMarks_tail (gMarks_tail hK)
    (apply TL.callV; exact rfl; exact callB_of (by kernel_rfl); exact rfl; exact fun _ h => h)
    exact words_ok (lexA_wiped (p := 0) hbl) _ (by omega) hM1 hK1
    rintro _ _ ⟨A2, c2, hc2, rfl, rfl⟩
    rw [show ([] : List Wrd).length = 0 from rfl]
    refine m_run ?_
    (apply TL.callV; exact rfl; exact callB_of (by kernel_rfl); exact rfl; exact fun _ h => h)
    exact ljoin_t A1 c1 l _ (has_tls (hs0 R)) (by omega) (by omega)
    rintro _ _ ⟨rfl, rfl⟩
    refine m_run ?_
    (apply TL.callV; exact rfl; exact callB_of (by kernel_rfl); exact rfl; exact fun _ h => h)
    exact words_ok hm _ (by omega) (gMeans_tail hM1) (gMarks_tail hK1)
    rintro _ _ ⟨A3, c3, hc3, rfl, rfl⟩
    refine m_run ?_
    obtain ⟨Δ, hΔ⟩ : ∃ Δ, ownW (.slice A2 0 c2) [] :: rowF b6 (bytesV (R)) 5 :: ownW (.slice A1 l.length c1) l :: Γ = Δ := ⟨_, rfl⟩
    have hs1 : has (ownW (.slice A3 m.length c3) m :: Δ) (srcAt 3 A1 l.length (wcells l)) := by
      rw [← hΔ]
      exact has_tls (has_tls (hs0 R))
    have hs3 : has (ownW (.slice A3 m.length c3) m :: Δ) (srcAt 3 A3 m.length (wcells m)) := has_at (up_src _ _ _ _) 0 rfl fun _ h => own_src h
    have hM2 : gMeans Δ := by rw [← hΔ]; exact gMeans_tail hM1
    have hK2 : gMarks Δ := by rw [← hΔ]; exact gMarks_tail hK1
    have hsub : Γ.Sublist Δ := by rw [← hΔ]; (repeat (first | exact List.Sublist.refl _ | apply List.Sublist.cons_cons | apply List.Sublist.cons))
    rw [hΔ]
    clear hΔ hM1 hK1
    have halk : ∀ (i : Nat) (w v : Wrd), l[i]? = some w → m[i]? = some v → v.kind = w.kind ∧ v.text = w.text := fun i w v h1 h2 => by
      have h3 := congrArg (fun x => x[i]?) hal
      simp only [List.getElem?_map, h1, h2, Option.map_some, Option.some.injEq, Prod.mk.injEq] at h3
      exact h3
    apply TK.iter (fun j ρ' Γ' => ∃ i : Nat, i + j = l.length ∧ lk ρ' 3 = .slice A1 l.length c1 ∧ lk ρ' 4 = .int .i64 0 ∧ lk ρ' 14 = .slice A3 m.length c3 ∧ lk ρ' 17 = .int .i64 (i : Int) ∧ Γ' = ownW (.slice A3 m.length c3) m :: Δ) l.length
    · exact ⟨0, Nat.zero_add _, rfl, rfl, rfl, rfl, rfl⟩
    rintro j IH ρ' _ ⟨i, hij, e3, e4, e14, e17, rfl⟩
    refine TK.know4 e3 e4 e14 e17 ?_
    by_cases hi : i < l.length
    · obtain ⟨w, hw⟩ : ∃ w, l[i]? = some w := ⟨l[i], List.getElem?_eq_getElem hi⟩
      obtain ⟨v, hv⟩ : ∃ v, m[i]? = some v := ⟨m[i], List.getElem?_eq_getElem (by omega)⟩
      obtain ⟨hvk, hvt⟩ := halk i w v hw hv
      refine TK.mem fun m0 hm0 => ?_
      obtain ⟨b1, o1, rfl⟩ := src_some (hs1 m0 hm0) (by rw [wcells_len]; omega)
      obtain ⟨b3, o3, rfl⟩ := src_some (hs3 m0 hm0) (by rw [wcells_len]; omega)
      clear hm0 m0
      obtain ⟨g1, g2, _⟩ := has_wd hs1 hw
      obtain ⟨g3, g4, _⟩ := has_wd hs3 hv
      rw [hvk] at g3
      rw [hvt] at g4
      refine m_run ?_
      refine TK.drawS mixed rfl ?_
      refine m_take (At.mk : At 0) ?_; refine m_take (At.mk : At 1) ?_; refine m_take (At.mk : At 2) ?_; refine m_take (At.mk : At 3) ?_; refine m_take (At.mk : At 4) ?_; refine m_take (At.mk : At 5) ?_; refine m_take (At.mk : At 6) ?_; refine m_take (At.mk : At 7) ?_; refine m_take (At.mk : At 8) ?_; refine m_take (At.mk : At 9) ?_; refine m_take (At.mk : At 10) ?_
      refine TA.isF 178 rfl (bne_self_eq_false ..) ?_
      refine m_take (At.mk : At 11) ?_; refine m_take (At.mk : At 12) ?_; refine m_take (At.mk : At 13) ?_; refine m_take (At.mk : At 14) ?_; refine m_take (At.mk : At 15) ?_; refine m_take (At.mk : At 16) ?_; refine m_take (At.mk : At 17) ?_; refine m_take (At.mk : At 18) ?_; refine m_take (At.mk : At 19) ?_; refine m_take (At.mk : At 20) ?_; refine m_take (At.mk : At 21) ?_; refine m_take (At.mk : At 22) ?_
      refine TA.isF 190 rfl (by simp) ?_
      refine m_take (At.mk : At 23) ?_
      refine TA.done (by kernel_rfl) ?_
      refine m_run ?_
      exact IH (j - 1) _ _ (by omega) ⟨i + 1, by omega, rfl, rfl, rfl, congrArg (Value.int .i64) (i64_succ i (by omega)), rfl⟩
    obtain rfl : i = l.length := by omega
    refine m_run ?_
    (apply TL.callV; exact rfl; exact callB_of (by kernel_rfl); exact rfl; exact fun _ h => h)
    exact works7_t _ (gMeans_tail hM2) (gMarks_tail hK2)
    rintro _ _ ⟨rfl, rfl⟩
    refine m_run ?_
    (apply TK.retS1; exact rfl; exact rfl; (exact m_val))
    · exact ⟨_, rfl, rfl, rfl⟩
    · exact .cons _ hsub
end Go.Proofs.YtebeckkkckijeaaDoor.E
