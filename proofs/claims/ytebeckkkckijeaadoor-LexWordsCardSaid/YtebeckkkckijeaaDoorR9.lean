/- LexParts, walked. -/
import Derived.Test.YtebeckkkckijeaaDoorR8
import Derived.Test.YtebeckkkckijeaaDoorSe
namespace Go.Proofs.YtebeckkkckijeaaDoor.E
open Go Go.RowKit Go.Proofs
attribute [local irreducible] TK TL TQ TA Fn PV
theorem lex_parts (a b : List UInt8) : lexA 0 (a ++ 10 :: b) = both (lexA 0 a) (shiftR (a.length + 1) (lexA 0 b)) := by
  rw [lexA_two b a.length 0 a (Nat.le_refl _), lexA_at (0 + a.length + 1) b, Nat.zero_add]
theorem joinL_len (w : Wrd) (l : List Wrd) : (joinL (w :: l)).length ≤ w.text.length + 1 + (joinL l).length := by
  cases l with
  | nil => show w.text.length ≤ _; omega
  | cons v l => show (w.text ++ 32 :: joinL (v :: l)).length ≤ _; rw [List.length_append, List.length_cons]; omega
theorem lexA_size : ∀ (n p : Nat) (s : List UInt8) (l : List Wrd), s.length ≤ n → lexA p s = .ok l → l.length ≤ s.length ∧ (joinL l).length ≤ 2 * s.length := by
  intro n
  induction n with
  | zero =>
    intro p s l h hl
    have : s = [] := List.length_eq_zero_iff.1 (by omega)
    subst this
    rw [lexA_nil] at hl
    injection hl with hl; subst hl
    exact ⟨Nat.zero_le _, Nat.zero_le _⟩
  | succ n ih =>
    intro p s l h hl
    rw [lexA_eq] at hl
    have hb := blk_len s
    split at hl
    · injection hl with hl; subst hl
      exact ⟨Nat.zero_le _, Nat.zero_le _⟩
    · rename_i c r he
      rw [he] at hb
      split at hl
      · cases hl
      · rename_i k m ht
        have hm := tok_len ht
        obtain ⟨r2, hr2⟩ : ∃ r2, (c :: r).drop m = r2 := ⟨_, rfl⟩
        have hr2l : r2.length = (c :: r).length - m := by rw [← hr2, List.length_drop]
        rw [hr2] at hl
        cases hx : lexA (p + (s.length - (c :: r).length) + m) r2 with
        | error e => rw [hx] at hl; cases hl
        | ok l2 =>
          rw [hx] at hl
          injection hl with hl; subst hl
          have := ih _ r2 l2 (by omega) hx
          have hj := joinL_len ⟨k, (c :: r).take m, p + (s.length - (c :: r).length)⟩ l2
          have hl2 : ((c :: r).take m).length = m := by rw [List.length_take]; omega
          simp only [hl2] at hj
          simp only [List.length_cons] at *
          omega
theorem words_len {p : Nat} {s : List UInt8} {l : List Wrd} (h : lexA p s = .ok l) : l.length ≤ s.length := (lexA_size _ p s l (Nat.le_refl _) h).1
theorem words_join {p : Nat} {s : List UInt8} {l : List Wrd} (h : lexA p s = .ok l) : (joinL l).length ≤ 2 * s.length := (lexA_size _ p s l (Nat.le_refl _) h).2
theorem shift_ok {q p : Nat} {s : List UInt8} {l : List Wrd} (h : lexA p s = .ok l) : shiftR q (lexA p s) = .ok (l.map (Wrd.shift q)) := by rw [h]; rfl
theorem standing_pos : ∀ (l : List Wrd) (t : List UInt8) (p : Nat), standing t p l → ∀ w ∈ l, w.pos + w.text.length ≤ t.length
  | [], _, _, _, w, hw => by cases hw
  | v :: l, t, p, h, w, hw => by
    obtain ⟨_, _, h3, _, h5⟩ := h
    rcases List.mem_cons.1 hw with rfl | hw
    · exact h3
    · exact standing_pos l t _ h5 w hw
theorem words_pos {s : List UInt8} {l : List Wrd} (h : lexA 0 s = .ok l) : ∀ w ∈ l, w.pos + w.text.length ≤ s.length := standing_pos l s 0 (by simpa using (lexA_facts s.length 0 [] s l (Nat.le_refl _) rfl h).1)
set_option maxRecDepth 100000 in
set_option maxHeartbeats 2000000 in
theorem parts_t (a b : List UInt8) (Γ : List HP) (hal : a.length ≤ 2000000000000000000) (hbl : b.length ≤ 2000000000000000000) (hM : gMeans Γ) (hK : gMarks Γ) : FnV Tryd.prog 7 [.string (S a), .string (S b)] Γ fun v Γ' => v = .bool true ∧ Γ' = Γ := by
  refine Fn.enter Tryd.func7 rfl rfl rfl fun E => ?_
  by_cases hab : 4096 < a.length + b.length
  · refine m_run ?_
    refine TK.know (t := 20) (v := .int .i64 ((a.length + b.length : Nat) : Int)) (congrArg (Value.int .i64) (by rw [i64_in (by omega) (by omega)]; omega)) ?_
    refine TK.know (t := 21) (v := .bool true) (congrArg Value.bool (decide_eq_true (by rw [i64_in (by omega) (by omega)]; omega))) ?_
    refine m_run ?_
    (apply TL.callV; exact rfl; exact callB_of (by kernel_rfl); exact rfl; exact fun _ h => h)
    exact works7_t _ hM hK
    rintro _ _ ⟨rfl, rfl⟩
    refine m_run ?_
    (apply TK.ret1; exact rfl; exact rfl; (exact m_val))
    exact ⟨_, rfl, rfl, rfl⟩
  refine m_run ?_
  refine TK.know (t := 21) (v := .bool false) (congrArg Value.bool (decide_eq_false (by rw [i64_in (by omega) (by omega)]; omega))) ?_
  cases ha : lexA 0 a with
  | error e =>
    have hall : lexA 0 (a ++ 10 :: b) = .error e := by rw [lex_parts, ha]; rfl
    refine m_run ?_
    (apply TL.callV; exact rfl; exact callB_of (by kernel_rfl); exact rfl; exact fun _ h => h)
    exact words_er ha Γ (by omega) hM hK
    rintro _ Γ ⟨rfl, rfl⟩
    have hfin : ∀ v Γ', WordsR Γ (lexA 0 b) v Γ' → ∃ x p c, v = .tuple #[x, p, c] ∧ Γ.Sublist Γ' ∧ gMeans Γ' ∧ gMarks Γ' := fun v Γ' h => by
      cases hb : lexA 0 b with
      | ok m =>
        rw [hb] at h
        obtain ⟨A, c, _, rfl, rfl⟩ := h
        exact ⟨_, _, _, rfl, List.sublist_cons_self _ _, gMeans_tail hM, gMarks_tail hK⟩
      | error e =>
        rw [hb] at h
        obtain ⟨rfl, rfl⟩ := h
        exact ⟨_, _, _, rfl, List.Sublist.refl _, hM, hK⟩
    refine m_run ?_
    (apply TL.callV; exact rfl; exact callB_of (by kernel_rfl); exact rfl; exact fun _ h => h)
    exact words_t b Γ (by omega) hM hK
    intro v Γ' hv
    obtain ⟨x, p, c, rfl, hsub, hM', hK'⟩ := hfin v Γ' hv
    refine m_run ?_
    (apply TL.pv; exact rfl; (apply PV.catS (a := a) (b := [10]); exact rfl; exact rfl; exact (by simp only [List.length_append, List.length_cons, List.length_nil]; omega)))
    refine m_run ?_
    (apply TL.pv; exact rfl; (apply PV.catS (a := a ++ [10]) (b := b); exact rfl; exact rfl; exact (by simp only [List.length_append, List.length_cons, List.length_nil]; omega)))
    refine TL.know (t := 39) (v := .string (S (a ++ 10 :: b))) (congrArg (fun z : List UInt8 => Value.string (S z)) (show a ++ [10] ++ b = a ++ 10 :: b by simp)) ?_
    refine m_run ?_
    (apply TL.callV; exact rfl; exact callB_of (by kernel_rfl); exact rfl; exact fun _ h => h)
    exact words_er hall _ (by simp; omega) hM' hK'
    rintro _ _ ⟨rfl, rfl⟩
    refine m_run ?_
    (apply TL.callV; exact rfl; exact callB_of (by kernel_rfl); exact rfl; exact fun _ h => h)
    exact works7_t _ hM' hK'
    rintro _ _ ⟨rfl, rfl⟩
    refine m_run ?_
    (apply TK.retS1; exact rfl; exact rfl; (exact m_val))
    · exact ⟨_, rfl, rfl, rfl⟩
    · exact hsub
  | ok l => 
    have hla := words_len ha
    refine m_run ?_
    (apply TL.callV; exact rfl; exact callB_of (by kernel_rfl); exact rfl; exact fun _ h => h)
    exact words_ok ha Γ (by omega) hM hK
    rintro _ _ ⟨A1, c1, hc1, rfl, rfl⟩
    cases hb : lexA 0 b with
    | error e =>
      have hall : lexA 0 (a ++ 10 :: b) = .error (e + (a.length + 1)) := by rw [lex_parts, ha, hb]; rfl
      have he := lexA_err hb
      refine m_run ?_
      (apply TL.callV; exact rfl; exact callB_of (by kernel_rfl); exact rfl; exact fun _ h => h)
      exact words_er hb _ (by omega) (gMeans_tail hM) (gMarks_tail hK)
      rintro _ _ ⟨rfl, rfl⟩
      refine m_run ?_
      (apply TL.pv; exact rfl; (apply PV.catS (a := a) (b := [10]); exact rfl; exact rfl; exact (by simp only [List.length_append, List.length_cons, List.length_nil]; omega)))
      refine m_run ?_
      (apply TL.pv; exact rfl; (apply PV.catS (a := a ++ [10]) (b := b); exact rfl; exact rfl; exact (by simp only [List.length_append, List.length_cons, List.length_nil]; omega)))
      refine TL.know (t := 39) (v := .string (S (a ++ 10 :: b))) (congrArg (fun z : List UInt8 => Value.string (S z)) (show a ++ [10] ++ b = a ++ 10 :: b by simp)) ?_
      refine m_run ?_
      (apply TL.callV; exact rfl; exact callB_of (by kernel_rfl); exact rfl; exact fun _ h => h)
      exact words_er hall _ (by simp; omega) (gMeans_tail hM) (gMarks_tail hK)
      rintro _ _ ⟨rfl, rfl⟩
      refine m_run ?_
      refine TL.know (t := 76) (v := .bool true) (congrArg Value.bool (beq_iff_eq.2 (by rw [i64_succ _ (by omega), i64_in (by omega) (by omega)]; omega))) ?_
      refine m_run ?_
      (apply TL.callV; exact rfl; exact callB_of (by kernel_rfl); exact rfl; exact fun _ h => h)
      exact works7_t _ (gMeans_tail hM) (gMarks_tail hK)
      rintro _ _ ⟨rfl, rfl⟩
      refine m_run ?_
      (apply TK.retS1; exact rfl; exact rfl; (exact m_val))
      · exact ⟨_, rfl, rfl, rfl⟩
      · (repeat (first | exact List.Sublist.refl _ | apply List.Sublist.cons_cons | apply List.Sublist.cons))
    | ok m =>
      have hlb := words_len hb
      have hall : lexA 0 (a ++ 10 :: b) = .ok (l ++ m.map (Wrd.shift (a.length + 1))) := by rw [lex_parts, ha, hb]; rfl
      have hlall := words_len hall
      refine m_run ?_
      (apply TL.callV; exact rfl; exact callB_of (by kernel_rfl); exact rfl; exact fun _ h => h)
      exact words_ok hb _ (by omega) (gMeans_tail hM) (gMarks_tail hK)
      rintro _ _ ⟨A2, c2, hc2, rfl, rfl⟩
      refine m_run ?_
      (apply TL.pv; exact rfl; (apply PV.catS (a := a) (b := [10]); exact rfl; exact rfl; exact (by simp only [List.length_append, List.length_cons, List.length_nil]; omega)))
      refine m_run ?_
      (apply TL.pv; exact rfl; (apply PV.catS (a := a ++ [10]) (b := b); exact rfl; exact rfl; exact (by simp only [List.length_append, List.length_cons, List.length_nil]; omega)))
      refine TL.know (t := 39) (v := .string (S (a ++ 10 :: b))) (congrArg (fun z : List UInt8 => Value.string (S z)) (show a ++ [10] ++ b = a ++ 10 :: b by simp)) ?_
      refine m_run ?_
      (apply TL.callV; exact rfl; exact callB_of (by kernel_rfl); exact rfl; exact fun _ h => h)
      exact words_ok hall _ (by simp; omega) (gMeans_tail (gMeans_tail hM)) (gMarks_tail (gMarks_tail hK))
      rintro _ _ ⟨A3, c3, hc3, rfl, rfl⟩
      refine m_run ?_
      refine TK.know (t := 99) (v := .bool false) (congrArg Value.bool (bne_eq_false_iff_eq.2 (by rw [i64_in (by omega) (by omega)]; simp))) ?_
      refine m_run ?_
      obtain ⟨L, hL⟩ : ∃ L, l ++ m.map (Wrd.shift (a.length + 1)) = L := ⟨_, rfl⟩
      rw [hL] at hc3 hall hlall
      have hLl : L.length = l.length + m.length := by rw [← hL]; simp
      simp only [hL]
      have hs1 : has (ownW (.slice A3 L.length c3) L :: ownW (.slice A2 m.length c2) m :: ownW (.slice A1 l.length c1) l :: Γ) (srcAt 3 A1 l.length (wcells l)) := has_at (up_src _ _ _ _) 2 rfl fun _ h => own_src h
      have hs2 : has (ownW (.slice A3 L.length c3) L :: ownW (.slice A2 m.length c2) m :: ownW (.slice A1 l.length c1) l :: Γ) (srcAt 3 A2 m.length (wcells m)) := has_at (up_src _ _ _ _) 1 rfl fun _ h => own_src h
      have hs3 : has (ownW (.slice A3 L.length c3) L :: ownW (.slice A2 m.length c2) m :: ownW (.slice A1 l.length c1) l :: Γ) (srcAt 3 A3 L.length (wcells L)) := has_at (up_src _ _ _ _) 0 rfl fun _ h => own_src h
      apply TK.iter (fun j ρ' Γ' => ∃ i : Nat, i + j = L.length ∧ lk ρ' 0 = .string (S a) ∧ lk ρ' 5 = .slice A1 l.length c1 ∧ lk ρ' 8 = .slice A2 m.length c2 ∧ lk ρ' 11 = .slice A3 L.length c3 ∧ lk ρ' 14 = .int .i64 (i : Int) ∧ Γ' = ownW (.slice A3 L.length c3) L :: ownW (.slice A2 m.length c2) m :: ownW (.slice A1 l.length c1) l :: Γ) L.length
      · exact ⟨0, Nat.zero_add _, rfl, rfl, rfl, rfl, rfl, rfl⟩
      rintro j IH ρ' _ ⟨i, hij, e0, e5, e8, e11, e14, rfl⟩
      refine TK.know5 e0 e5 e8 e11 e14 ?_
      by_cases hi : i < L.length
      · obtain ⟨w, hw⟩ : ∃ w, L[i]? = some w := ⟨L[i], List.getElem?_eq_getElem hi⟩
        refine TK.mem fun m0 hm0 => ?_
        obtain ⟨b3, o3, rfl⟩ := src_some (hs3 m0 hm0) (by rw [wcells_len]; omega)
        clear hm0 m0
        have hc := has_word hs3 hw
        refine m_run ?_
        (apply TL.pv; exact rfl; (apply PV.build tabs; exact rfl; exact rfl; exact rfl; exact rfl; exact rfl; exact (rfl : _ = wcell ⟨0, [], 0⟩)))
        (apply TL.alloc; exact rfl; exact tb rfl; exact (rfl : _ = wcell ⟨0, [], 0⟩))
        intro b15
        (apply TL.storeAggE 0 (l' := wcell ⟨0, [], 0⟩); exact rfl; exact rfl; exact rfl; exact rfl; exact tb rfl; exact rfl; exact (Nat.le_refl 3); exact rfl; exact rfl)
        by_cases hl : i < l.length
        · have hw1 : l[i]? = some w := by rw [← hw, ← hL, List.getElem?_append_left hl]
          refine TL.mem fun m0 hm0 => ?_
          obtain ⟨b1, o1, rfl⟩ := src_some (has_tls hs1 m0 hm0) (by rw [wcells_len]; omega)
          clear hm0 m0
          have hcw := has_word hs1 hw1
          refine m_run ?_
          refine TK.imp (Δ := row b15 (wcell w) 36 :: ownW (.slice (some ⟨b3, o3, none⟩) L.length c3) L :: ownW (.slice A2 m.length c2) m :: ownW (.slice (some ⟨b1, o1, none⟩) l.length c1) l :: Γ) (fun _ h => h) ?_
          refine TK.drawS mixed rfl ?_
          refine m_take (At.mk : At 0) ?_; refine m_take (At.mk : At 1) ?_; refine m_take (At.mk : At 2) ?_; refine m_take (At.mk : At 3) ?_; refine m_take (At.mk : At 4) ?_
          (apply TA.takeA (At.mk : At 5); exact rfl; exact rfl; kernel_rfl; ((focus ((repeat (first | assumption | exact Ent.refl _ | apply Ent.tail)); done))); (apply PV.neSt (xs := wcell w) (ys := wcell w) tabs; exact rfl; exact rfl; exact rfl; exact rfl; kernel_rfl; kernel_rfl; exact rfl))
          refine TA.isF 134 rfl (by simp [beq_toListBytes]) ?_
          refine TA.done (by kernel_rfl) ?_
          refine m_run ?_
          refine TK.sub (Δ := ownW (.slice (some ⟨b3, o3, none⟩) L.length c3) L :: ownW (.slice A2 m.length c2) m :: ownW (.slice (some ⟨b1, o1, none⟩) l.length c1) l :: Γ) (by (repeat (first | exact List.Sublist.refl _ | apply List.Sublist.cons_cons | apply List.Sublist.cons))) ?_
          exact IH (j - 1) _ _ (by omega) ⟨i + 1, by omega, rfl, rfl, rfl, rfl, congrArg (Value.int .i64) (i64_succ i (by omega)), rfl⟩
        · obtain ⟨v, hv⟩ : ∃ v, m[i - l.length]? = some v := ⟨m[i - l.length]'(by omega), List.getElem?_eq_getElem (by omega)⟩
          have hwv : w = v.shift (a.length + 1) := by
            rw [← hL, List.getElem?_append_right (by omega), List.getElem?_map, hv] at hw
            exact (Option.some.inj hw).symm
          have hvp := words_pos hb v (List.mem_of_getElem? hv)
          refine TL.mem fun m0 hm0 => ?_
          obtain ⟨b2, o2, rfl⟩ := src_some (has_tls hs2 m0 hm0) (by rw [wcells_len]; omega)
          clear hm0 m0
          have hcw := has_word hs2 hv
          refine m_run ?_
          refine TL.know (t := 119) (v := .int .i64 ((i - l.length : Nat) : Int)) (congrArg (Value.int .i64) (by rw [i64_in (by omega) (by omega)]; omega)) ?_
          refine m_run ?_
          have hcell : wcell w = [.int .u8 (v.kind : Int), .string (S v.text), .int .i64 (IntKind.i64.wrap (IntKind.i64.wrap ((v.pos : Int) + (a.length : Int)) + 1))] := by
            rw [hwv, i64_in (x := (v.pos : Int) + (a.length : Int)) (by omega) (by omega), i64_in (by omega) (by omega)]
            show [Value.int .u8 (v.kind : Int), .string (S v.text), .int .i64 ((v.pos + (a.length + 1) : Nat) : Int)] = _
            rw [show ((v.pos + (a.length + 1) : Nat) : Int) = (v.pos : Int) + (a.length : Int) + 1 by omega]
          refine TK.imp (Δ := row b15 (wcell w) 36 :: ownW (.slice (some ⟨b3, o3, none⟩) L.length c3) L :: ownW (.slice (some ⟨b2, o2, none⟩) m.length c2) m :: ownW (.slice A1 l.length c1) l :: Γ) (fun _ h => by rw [hcell]; exact h) ?_
          refine TK.drawS mixed rfl ?_
          refine m_take (At.mk : At 0) ?_; refine m_take (At.mk : At 1) ?_; refine m_take (At.mk : At 2) ?_; refine m_take (At.mk : At 3) ?_; refine m_take (At.mk : At 4) ?_
          (apply TA.takeA (At.mk : At 5); exact rfl; exact rfl; kernel_rfl; ((focus ((repeat (first | assumption | exact Ent.refl _ | apply Ent.tail)); done))); (apply PV.neSt (xs := wcell w) (ys := wcell w) tabs; exact rfl; exact rfl; exact rfl; exact rfl; kernel_rfl; kernel_rfl; exact rfl))
          refine TA.isF 134 rfl (by simp [beq_toListBytes]) ?_
          refine TA.done (by kernel_rfl) ?_
          refine m_run ?_
          refine TK.sub (Δ := ownW (.slice (some ⟨b3, o3, none⟩) L.length c3) L :: ownW (.slice (some ⟨b2, o2, none⟩) m.length c2) m :: ownW (.slice A1 l.length c1) l :: Γ) (by (repeat (first | exact List.Sublist.refl _ | apply List.Sublist.cons_cons | apply List.Sublist.cons))) ?_
          exact IH (j - 1) _ _ (by omega) ⟨i + 1, by omega, rfl, rfl, rfl, rfl, congrArg (Value.int .i64) (i64_succ i (by omega)), rfl⟩
      obtain rfl : i = L.length := by omega
      refine m_run ?_
      (apply TL.callV; exact rfl; exact callB_of (by kernel_rfl); exact rfl; exact fun _ h => h)
      exact works7_t _ (gMeans_tail (gMeans_tail (gMeans_tail hM))) (gMarks_tail (gMarks_tail (gMarks_tail hK)))
      rintro _ _ ⟨rfl, rfl⟩
      refine m_run ?_
      (apply TK.retS1; exact rfl; exact rfl; (exact m_val))
      · exact ⟨_, rfl, rfl, rfl⟩
      · (repeat (first | exact List.Sublist.refl _ | apply List.Sublist.cons_cons | apply List.Sublist.cons))
end Go.Proofs.YtebeckkkckijeaaDoor.E
