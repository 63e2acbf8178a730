/- What variables of great numbers stand for: walked. -/
import Derived.Test.YtokggdgagfmacaaD0
import Derived.Test.YtokggdgagfmacaaSn
namespace Go.Proofs.Ytokggdgagfmacaa.E
open Go Go.RowKit Go.Proofs
attribute [local irreducible] TK TL TQ TA TB Fn PV
theorem heldC_many {F : List Nat} {I : List Bool} {V W : Value} (hF : F.length = 16) (hI : I.length = 16) : (heldC F I V W)[32]? = some V ∧ (heldC F I V W)[33]? = some W := by
  unfold heldC
  have hl : (u32s F ++ I.map Value.bool).length = 32 := by simp [u32s_len, hF, hI]
  constructor <;> rw [List.getElem?_append_right (by omega), hl] <;> rfl
theorem heldC_put {F : List Nat} {I : List Bool} {V W V' W' : Value} (hF : F.length = 16) (hI : I.length = 16) : (heldC F I V W).set 32 V' = heldC F I V' W ∧ (heldC F I V W).set 33 W' = heldC F I V W' := by
  unfold heldC
  have hl : (u32s F ++ I.map Value.bool).length = 32 := by simp [u32s_len, hF, hI]
  constructor <;> rw [List.set_append_right _ _ (by omega), hl] <;> rfl
theorem tmsC_snoc (l : List Tm) (t : Tm) : tmsC l ++ tmC t = tmsC (l ++ [t]) := by simp [tmsC]
abbrev heldA (b : Nat) (F : List Nat) (I : List Bool) (A B : Option Addr) (c d : Nat) (mv : List Tm) (ms : List Nat) : List HP :=
  [own 54 2 (.slice A mv.length c) mv.length (tmsC mv), own 23 1 (.slice B ms.length d) ms.length (u32s ms), row b (heldC F I (.slice A mv.length c) (.slice B ms.length d)) 123]
set_option maxRecDepth 100000 in
set_option maxHeartbeats 2000000 in
theorem standsB_t (b : Nat) (F : List Nat) (I : List Bool) (A B : Option Addr) (c d : Nat) (mv : List Tm) (ms : List Nat) (t : Tm) (n : Nat) (Γ : List HP) (hF : F.length = 16) (hI : I.length = 16) (hN : 16 ≤ t.n) (hms : ms.length = mv.length) (hn : mv.length ≤ 100000) :
    FnV Try.prog 92 [.pointer (some ⟨b, 0, none⟩), .agg (tmC t).toArray, .int .u32 (n : Int)] (heldA b F I A B c d mv ms ++ Γ)
      fun v Γ' => (∃ (k w : Nat), mv[k]? = some t ∧ ms[k]? = some w ∧ v = .bool (decide (w = n)) ∧ Γ' = heldA b F I A B c d mv ms ++ Γ) ∨
        (t ∉ mv ∧ v = .bool true ∧ ∃ A' B' c' d', Γ' = heldA b F I A' B' c' d' (mv ++ [t]) (ms ++ [n]) ++ Γ) := by
  refine Fn.enter Try.func92 rfl rfl rfl fun E => ?_
  obtain ⟨tv, N⟩ := t
  replace hN : 16 ≤ N := hN
  refine m_run ?_
  (apply TL.box; exact rfl; exact rfl; (exact m_lst))
  intro b4
  refine TL.imp (Δ := row b4 (tmC ⟨tv, N⟩) 54 :: (heldA b F I A B c d mv ms ++ Γ)) (fun _ h => h) ?_
  have h1 : has (row b4 (tmC ⟨tv, N⟩) 54 :: (heldA b F I A B c d mv ms ++ Γ)) (fun m => cellAt m b 32 (.slice A mv.length c)) := has_row 3 rfl (heldC_many hF hI).1
  have h2 : has (row b4 (tmC ⟨tv, N⟩) 54 :: (heldA b F I A B c d mv ms ++ Γ)) (fun m => cellAt m b 33 (.slice B ms.length d)) := has_row 3 rfl (heldC_many hF hI).2
  have h3 : has (row b4 (tmC ⟨tv, N⟩) 54 :: (heldA b F I A B c d mv ms ++ Γ)) (fun m => cellAt m b4 1 (.int .u32 (N : Int))) := has_row 0 rfl rfl
  have hs : has (row b4 (tmC ⟨tv, N⟩) 54 :: (heldA b F I A B c d mv ms ++ Γ)) (srcAt 2 A mv.length (tmsC mv)) := has_at (up_src _ _ _ _) 1 rfl fun _ h => own_src h
  refine m_run ?_
  refine TK.drawS mixed rfl ?_
  refine m_take (At.mk : At 0) ?_; refine m_take (At.mk : At 1) ?_; refine m_take (At.mk : At 2) ?_; refine m_take (At.mk : At 3) ?_; refine m_take (At.mk : At 4) ?_
  (apply TA.one 5; kernel_rfl; exact rfl)
  (apply TL.callV; exact rfl; exact callB_of (by kernel_rfl); exact rfl; exact fun _ h => h)
  exact idx_t A c mv ⟨tv, N⟩ _ hs (by omega)
  rintro _ _ ⟨rfl, rfl⟩
  refine TL.back (by (focus ((repeat (first | assumption | exact Ent.refl _ | apply Ent.tail)); done))) ?_
  refine m_take (At.mk : At 6) ?_
  refine TA.done (by kernel_rfl) ?_
  by_cases hm : (⟨tv, N⟩ : Tm) ∈ mv
  · obtain ⟨k, hk, hkt⟩ := idxT_some hm
    rw [hk]
    have hkl := (List.getElem?_eq_some_iff.1 hkt).1
    obtain ⟨w, hw⟩ : ∃ w, ms[k]? = some w := ⟨ms[k], List.getElem?_eq_getElem (by omega)⟩
    refine TK.mem fun m0 hm0 => ?_
    have hsb : has (row b4 (tmC ⟨tv, N⟩) 54 :: (heldA b F I A B c d mv ms ++ Γ)) (srcAt 1 B ms.length (u32s ms)) := has_at (up_src _ _ _ _) 2 rfl fun _ h => own_src h
    obtain ⟨b', o', rfl⟩ := src_some (hsb m0 hm0) (by rw [u32s_len]; omega)
    clear hm0 m0
    have hfv := has_u32 hsb hw
    refine m_run ?_
    (apply TK.retS1; exact rfl; exact rfl; (exact m_val))
    · exact ⟨_, rfl, .inl ⟨k, w, hkt, hw, congrArg Value.bool (by
        by_cases h : w = n
        · subst h; simp
        · have : (w : Int) ≠ (n : Int) := by omega
          simp [h, this]), rfl⟩⟩
    · (repeat (first | exact List.Sublist.refl _ | apply List.Sublist.cons_cons | apply List.Sublist.cons))
  · rw [idxT_none hm]
    refine TK.perm (Δ := own 54 2 (.slice A mv.length c) mv.length (tmsC mv) :: own 23 1 (.slice B ms.length d) ms.length (u32s ms) :: row b4 (tmC ⟨tv, N⟩) 54 :: row b (heldC F I (.slice A mv.length c) (.slice B ms.length d)) 123 :: Γ) ((List.Perm.swap _ _ _).trans ((List.Perm.swap _ _ _).cons _)) ?_
    have g1 : has (row b4 (tmC ⟨tv, N⟩) 54 :: row b (heldC F I (.slice A mv.length c) (.slice B ms.length d)) 123 :: Γ) (fun m => cellAt m b 32 (.slice A mv.length c)) := has_row 1 rfl (heldC_many hF hI).1
    have g2 : has (row b4 (tmC ⟨tv, N⟩) 54 :: row b (heldC F I (.slice A mv.length c) (.slice B ms.length d)) 123 :: Γ) (fun m => cellAt m b 33 (.slice B ms.length d)) := has_row 1 rfl (heldC_many hF hI).2
    refine m_run ?_
    refine TK.drawB mixed rfl 18 (row b4 (tmC ⟨tv, N⟩) 54 :: row b (heldC F I (.slice A mv.length c) (.slice B ms.length d)) 123 :: Γ) Γ ?_
    refine m_bake (At.mk : At 0) ?_; refine m_bake (At.mk : At 1) ?_; refine m_bake (At.mk : At 2) ?_; refine m_bake (At.mk : At 3) ?_; refine m_bake (At.mk : At 4) ?_; refine m_bake (At.mk : At 5) ?_; refine m_bake (At.mk : At 6) ?_; refine m_bake (At.mk : At 9) ?_; refine m_bake (At.mk : At 10) ?_; refine m_bake (At.mk : At 11) ?_; refine m_bake (At.mk : At 12) ?_; refine m_bake (At.mk : At 13) ?_
    refine TB.cutJ [7, 8, 14] (fun ρ' Γ' => ∃ (b78 : Nat) (A' : Option Addr) (c' : Nat), mv.length + 1 ≤ c' ∧ lk ρ' 64 = .pointer (some ⟨b, 0, none⟩) ∧ lk ρ' 65 = .pointer (some ⟨b, 0, none⟩) ∧ lk ρ' 72 = .slice A' (mv.length + 1) c' ∧ lk ρ' 76 = .slice B ms.length d ∧ lk ρ' 78 = .slice (some ⟨b78, 0, none⟩) 1 1 ∧ Γ' = row b78 (u32s [n]) 23 :: own 54 2 (.slice A' (mv.length + 1) c') (mv.length + 1) (tmsC (mv ++ [⟨tv, N⟩])) :: own 23 1 (.slice B ms.length d) ms.length (u32s ms) :: row b4 (tmC ⟨tv, N⟩) 54 :: row b (heldC F I (.slice A mv.length c) (.slice B ms.length d)) 123 :: Γ) rfl ?_ ?_
    · intro tail
      refine TB.two 7 14 (by kernel_rfl) rfl rfl rfl rfl ?_ ?_
      · (apply TL.buildSlice (l := tmC ⟨tv, N⟩); exact rfl; exact tb rfl; exact rfl; exact tb rfl; exact rfl; exact rfl; exact rfl; exact rfl; exact rfl)
        intro b71
        refine TL.backB (by (focus ((repeat (first | assumption | exact Ent.refl _ | apply Ent.tail)); done))) ?_
        refine TB.two 8 14 (by kernel_rfl) rfl rfl rfl rfl ?_ ?_
        · (apply TL.append 1; exact rfl; exact rfl; exact tb rfl; exact rfl; exact tb rfl; exact rfl; exact rfl; exact rfl)
          · exact fun _ h => h
          · exact rfl
          · exact has_src_row 0 rfl rfl
          · exact one_of rfl
          · show (mv.length + 1) * 8 ≤ _; omega
          · show mv.length + 1 ≤ maxLen; unfold maxLen; omega
          · exact fun _ => (rfl : _ = _ :: _ :: _)
          intro A' c' hc'
          rw [tmsC_snoc]
          refine TL.backB (by (focus ((repeat (first | assumption | exact Ent.refl _ | apply Ent.tail)); done))) ?_
          (apply TB.one 14; kernel_rfl; exact rfl; exact rfl)
          (apply TL.buildSlice (l := u32s [n]); exact rfl; exact tb rfl; exact rfl; exact tb rfl; exact rfl; exact rfl; exact rfl; exact rfl; exact rfl)
          intro b78
          refine TL.backB (by (focus ((repeat (first | assumption | exact Ent.refl _ | apply Ent.tail)); done))) ?_
          refine TB.sub (Δ := _) ?_ (TB.eqL ?_ (tail _ _ ⟨b78, A', c', hc', rfl, rfl, rfl, rfl, rfl, rfl⟩))
          · (repeat (first | exact List.Sublist.refl _ | apply List.Sublist.cons_cons | apply List.Sublist.cons))
          · kernel_rfl
        · (apply TL.buildSlice (l := u32s [n]); exact rfl; exact tb rfl; exact rfl; exact tb rfl; exact rfl; exact rfl; exact rfl; exact rfl; exact rfl)
          intro b78
          refine TL.backB (by (focus ((repeat (first | assumption | exact Ent.refl _ | apply Ent.tail)); done))) ?_
          (apply TB.one 8; kernel_rfl; exact rfl; exact rfl)
          (apply TL.append 2; exact rfl; exact rfl; exact tb rfl; exact rfl; exact tb rfl; exact rfl; exact rfl; exact rfl)
          · exact fun _ h => h
          · exact rfl
          · exact has_src_row 1 rfl rfl
          · exact one_of rfl
          · show (mv.length + 1) * 8 ≤ _; omega
          · show mv.length + 1 ≤ maxLen; unfold maxLen; omega
          · exact fun _ => (rfl : _ = _ :: _ :: _ :: _)
          intro A' c' hc'
          rw [tmsC_snoc]
          refine TL.backB (by (focus ((repeat (first | assumption | exact Ent.refl _ | apply Ent.tail)); done))) ?_
          refine TB.sub (Δ := _) ?_ (TB.eqL ?_ (tail _ _ ⟨b78, A', c', hc', rfl, rfl, rfl, rfl, rfl, rfl⟩))
          · (repeat (first | exact List.Sublist.refl _ | apply List.Sublist.cons_cons | apply List.Sublist.cons))
          · kernel_rfl
      · (apply TL.buildSlice (l := u32s [n]); exact rfl; exact tb rfl; exact rfl; exact tb rfl; exact rfl; exact rfl; exact rfl; exact rfl; exact rfl)
        intro b78
        refine TL.backB (by (focus ((repeat (first | assumption | exact Ent.refl _ | apply Ent.tail)); done))) ?_
        (apply TB.one 7; kernel_rfl; exact rfl; exact rfl)
        (apply TL.buildSlice (l := tmC ⟨tv, N⟩); exact rfl; exact tb rfl; exact rfl; exact tb rfl; exact rfl; exact rfl; exact rfl; exact rfl; exact rfl)
        intro b71
        refine TL.backB (by (focus ((repeat (first | assumption | exact Ent.refl _ | apply Ent.tail)); done))) ?_
        (apply TB.one 8; kernel_rfl; exact rfl; exact rfl)
        (apply TL.append 2; exact rfl; exact rfl; exact tb rfl; exact rfl; exact tb rfl; exact rfl; exact rfl; exact rfl)
        · exact fun _ h => h
        · exact rfl
        · exact has_src_row 0 rfl rfl
        · exact one_of rfl
        · show (mv.length + 1) * 8 ≤ _; omega
        · show mv.length + 1 ≤ maxLen; unfold maxLen; omega
        · exact fun _ => (rfl : _ = _ :: _ :: _ :: _)
        intro A' c' hc'
        rw [tmsC_snoc]
        refine TL.backB (by (focus ((repeat (first | assumption | exact Ent.refl _ | apply Ent.tail)); done))) ?_
        refine TB.sub (Δ := _) ?_ (TB.eqL ?_ (tail _ _ ⟨b78, A', c', hc', rfl, rfl, rfl, rfl, rfl, rfl⟩))
        · (repeat (first | exact List.Sublist.refl _ | apply List.Sublist.cons_cons | apply List.Sublist.cons))
        · kernel_rfl
    · rintro ρ' _ ⟨b78, A', c', hc', e64, e65, e72, e76, e78, rfl⟩
      refine TB.know e64 (TB.know (t := 65) (v := .pointer (some ⟨b, 0, none⟩)) e65 (TB.know (t := 72) (v := .slice A' (mv.length + 1) c') e72 (TB.know (t := 76) (v := .slice B ms.length d) e76 (TB.know (t := 78) (v := .slice (some ⟨b78, 0, none⟩) 1 1) e78 ?_))))
      (apply TB.one 15; kernel_rfl; exact rfl; exact rfl)
      (apply TL.append 2; exact rfl; exact rfl; exact tb rfl; exact rfl; exact tb rfl; exact rfl; exact rfl; exact rfl)
      · exact fun _ h => h
      · exact rfl
      · exact has_src_row 0 rfl rfl
      · exact one_of rfl
      · show (ms.length + 1) * 4 ≤ _; omega
      · show ms.length + 1 ≤ maxLen; unfold maxLen; omega
      · exact fun _ => (rfl : _ = _ :: _ :: _ :: _)
      intro B' d' hd'
      rw [show u32s ms ++ u32s [n] = u32s (ms ++ [n]) from u32s_snoc ms n]
      refine TL.backB (by (focus ((repeat (first | assumption | exact Ent.refl _ | apply Ent.tail)); done))) ?_
      refine m_bake (At.mk : At 16) ?_; refine m_bake (At.mk : At 17) ?_
      (apply TB.last; kernel_rfl; exact rfl)
      (apply TL.storeE 4; exact rfl; exact rfl; exact rfl; exact rfl; exact tb rfl; exact rfl; exact (by rw [heldC_len hF hI]; omega); exact (heldC_put (W' := .nilIface) hF hI).1; exact rfl)
      refine TL.back (by (focus ((repeat (first | assumption | exact Ent.refl _ | apply Ent.tail)); done))) ?_
      refine m_take (At.mk : At 19) ?_; refine m_take (At.mk : At 20) ?_
      (apply TA.one 21; kernel_rfl; exact rfl)
      (apply TL.storeE 4; exact rfl; exact rfl; exact rfl; exact rfl; exact tb rfl; exact rfl; exact (by rw [heldC_len hF hI]; omega); exact (heldC_put (V' := .nilIface) hF hI).2; exact rfl)
      refine TL.back (by (focus ((repeat (first | assumption | exact Ent.refl _ | apply Ent.tail)); done))) ?_
      refine TA.done (by kernel_rfl) ?_
      refine m_run ?_
      refine TK.imp (Δ := row b78 (u32s [n]) 23 :: own 54 2 (.slice A' (mv ++ ([⟨tv, N⟩] : List Tm)).length c') (mv ++ ([⟨tv, N⟩] : List Tm)).length (tmsC (mv ++ [⟨tv, N⟩])) :: own 23 1 (.slice B' (ms ++ [n]).length d') (ms ++ [n]).length (u32s (ms ++ [n])) :: row b4 (tmC ⟨tv, N⟩) 54 :: row b (heldC F I (.slice A' (mv ++ ([⟨tv, N⟩] : List Tm)).length c') (.slice B' (ms ++ [n]).length d')) 123 :: Γ) (fun m h => by rw [List.length_append, List.length_append]; exact h) ?_
      (apply TK.retS1; exact rfl; exact rfl; (exact m_val))
      · exact ⟨_, rfl, .inr ⟨hm, rfl, A', B', c', d', rfl⟩⟩
      · (repeat (first | exact List.Sublist.refl _ | apply List.Sublist.cons_cons | apply List.Sublist.cons))
end Go.Proofs.Ytokggdgagfmacaa.E
