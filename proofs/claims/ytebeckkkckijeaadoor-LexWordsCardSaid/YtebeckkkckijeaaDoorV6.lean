/- The document's words of a text. -/
import Derived.Test.YtebeckkkckijeaaDoorV5
namespace Go.Proofs.YtebeckkkckijeaaDoor.E
open Go Go.RowKit Go.Proofs
attribute [local irreducible] TK TL TQ TA Fn PV
theorem blk_drop (s : List UInt8) : s.drop (s.length - (blk s).length) = blk s := by
  have h : ∀ (n : Nat) (s : List UInt8), s.length ≤ n → s.drop (s.length - (blk s).length) = blk s := by
    intro n
    induction n with
    | zero =>
      intro s h
      have : s = [] := List.length_eq_zero_iff.1 (by omega)
      subst this; rfl
    | succ n ih =>
      intro s h
      cases s with
      | nil => rfl
      | cons c s =>
        simp only [List.length_cons] at h
        rw [blk_cons]
        split
        · have h1 := skipC_len s
          have h2 := blk_len (skipC s)
          have h3 := ih (skipC s) (by omega)
          have h4 := skip_drop s
          rw [List.length_cons, show s.length + 1 - (blk (skipC s)).length = (s.length - (skipC s).length + ((skipC s).length - (blk (skipC s)).length)) + 1 by omega, List.drop_succ_cons, ← List.drop_drop, h4, h3]
        · split
          · have h2 := blk_len s
            have h3 := ih s (by omega)
            rw [List.length_cons, show s.length + 1 - (blk s).length = (s.length - (blk s).length) + 1 by omega, List.drop_succ_cons, h3]
          · rw [Nat.sub_self]; rfl
  exact h s.length s (Nat.le_refl _)
theorem blk_blk (s : List UInt8) : blk (blk s) = blk s := by
  cases h : blk s with
  | nil => rfl
  | cons c r =>
    obtain ⟨pre, hs, hp⟩ := blk_pre s.length s (Nat.le_refl _) h
    rw [hs, hp] at h
    exact h
theorem blk_id {c : UInt8} {s : List UInt8} (h : blk (c :: s) = c :: s) : isB c = false ∧ c ≠ 37 := by
  rw [blk_cons] at h
  split at h
  · have h1 := skipC_len s
    have h2 := blk_len (skipC s)
    rw [h, List.length_cons] at h2
    omega
  · rename_i h37
    split at h
    · have h2 := blk_len s
      rw [h, List.length_cons] at h2
      omega
    · rename_i hb
      exact ⟨by simpa using hb, h37⟩
theorem lexA_skip (q : Nat) (s : List UInt8) : lexA q s = lexA (q + (s.length - (blk s).length)) (blk s) := by
  rw [lexA_eq q s, lexA_eq _ (blk s), blk_blk]
  cases h : blk s with
  | nil => rfl
  | cons c r => simp only [Nat.sub_self, Nat.add_zero]
theorem tok_mark (c : UInt8) (s : List UInt8) : (∃ k n, 0 < n ∧ markR (c :: s) = (k, n) ∧ tok (c :: s) = some (k, n)) ∨
    (markR (c :: s) = (0, 0) ∧ tok (c :: s) = if ((c :: s).takeWhile isL).length = 0 ∨ 32 < ((c :: s).takeWhile isL).length then none else some (kindW ((c :: s).takeWhile isL), ((c :: s).takeWhile isL).length)) := by
  cases hk : markK c with
  | some k => exact .inl ⟨k, 1, by decide, by simp only [markR, hk], by simp only [tok, hk]⟩
  | none =>
    by_cases h58 : c = 58
    · by_cases h45 : s.head? = some 45
      · exact .inl ⟨9, 2, by decide, by simp only [markR, hk, if_pos (And.intro h58 h45)], by simp only [tok, hk, if_pos h58, if_pos h45]⟩
      · refine .inr ⟨by simp only [markR, hk, if_neg (fun h : c = 58 ∧ s.head? = some 45 => h45 h.2)], ?_⟩
        have hw : (c :: s).takeWhile isL = [] := by subst h58; rfl
        simp only [tok, hk, if_pos h58, if_neg h45, hw, List.length_nil]
        rfl
    · exact .inr ⟨by simp only [markR, hk, if_neg (fun h : c = 58 ∧ s.head? = some 45 => h58 h.1)], by simp only [tok, hk, if_neg h58]⟩
abbrev ownR (V : Value) (l : List Wrd) : HP := own 49 3 V l.length (wcells l)
/-- What the document's Words answers. -/
def RWordsR (Γ : List HP) (r : Except Nat (List Wrd)) (v : Value) (Γ' : List HP) : Prop := match r with
  | .ok l => ∃ A c, l.length ≤ c ∧ v = .tuple #[.slice A l.length c, .int .i64 0, .int .i64 0] ∧ Γ' = ownR (.slice A l.length c) l :: Γ
  | .error e => v = .tuple #[.slice none 0 0, .int .i64 (e : Int), .int .i64 5] ∧ Γ' = Γ
set_option maxRecDepth 100000 in
set_option maxHeartbeats 4000000 in
theorem rwords_t (text : List UInt8) (Γ : List HP) (ht : text.length ≤ 65536) :
    FnV Tryd.prog 10 [.string (S text)] Γ (RWordsR Γ (lexA 0 text)) := by
  refine Fn.enter Tryd.func10 rfl rfl rfl fun E => ?_
  refine m_run ?_
  (apply TL.callV; exact rfl; exact callB_of (by kernel_rfl); exact rfl; exact fun _ h => h)
  exact rblanks_t text 0 Γ (Nat.zero_le _) (by omega)
  rintro _ Γ ⟨rfl, rfl⟩
  have hb0 := blk_len text
  have hl0 := lexA_skip 0 text
  have hd0 := blk_drop text
  have hbb0 := blk_blk text
  rw [Nat.zero_add] at hl0
  rw [List.drop_zero, Nat.sub_zero]
  generalize hp0 : text.length - (blk text).length = p0 at *
  rw [← hd0] at hbb0 hl0
  refine m_run ?_
  refine TK.free (H := ownR (.slice none 0 0) []) (fun m h => own_nil _ _ h) ?_
  apply TK.iter (fun j ρ' Γ' => ∃ (p : Nat) (l : List Wrd) (A : Option Addr) (cap : Nat), p + j = text.length ∧ l.length ≤ p ∧ l.length ≤ cap ∧ blk (text.drop p) = text.drop p ∧ lexA 0 text = both (.ok l) (lexA p (text.drop p)) ∧ lk ρ' 0 = .string (S text) ∧ lk ρ' 5 = .slice A l.length cap ∧ lk ρ' 6 = .int .i64 (p : Int) ∧ Γ' = ownR (.slice A l.length cap) l :: Γ) (text.length - p0)
  · exact ⟨p0, [], none, 0, by omega, Nat.zero_le _, Nat.le_refl _, hbb0, by rw [both_ok_nil]; exact hl0, rfl, rfl, rfl, rfl⟩
  rintro j IH ρ' _ ⟨p, l, A, cap, hpj, hlp, hlc, hbp, hlex, e0, e5, e6, rfl⟩
  refine TK.know3 e0 e5 e6 ?_
  by_cases hp : p < text.length
  · obtain ⟨c, s, hd, hc, hd1⟩ := drop_at hp
    rw [hd] at hbp
    obtain ⟨hb, h37⟩ := blk_id hbp
    have hsl : (c :: s).length = text.length - p := by rw [← hd, List.length_drop]
    refine m_run ?_
    (apply TL.callV; exact rfl; exact callB_of (by kernel_rfl); exact rfl; exact fun _ h => h)
    exact rmark_t text p _ hp (by omega)
    rintro _ _ ⟨rfl, rfl⟩
    rw [hd]
    rcases tok_mark c s with ⟨k, n, hn, hm, htok⟩ | ⟨hm, htok⟩
    · rw [hm]
      have htl := tok_len htok
      refine m_run ?_
      refine TL.know (t := 49) (v := .int .i64 ((p + n : Nat) : Int)) (congrArg (Value.int .i64) (by rw [i64_in (by omega) (by omega)]; omega)) ?_
      (apply TL.pv; exact rfl; (apply PV.sliceStr (i := p) (j := p + n) (l := text); exact rfl; exact tb rfl; exact rfl; exact .some rfl; exact .some rfl; exact (by omega); exact (by omega)))
      refine TL.know (t := 50) (v := .string (S ((text.drop p).take (n)))) (congrArg (fun z => Value.string (S z)) (by rw [Nat.add_sub_cancel_left])) ?_
      refine m_run ?_
      (apply TL.pv; exact rfl; (apply PV.build tabs; exact rfl; exact rfl; exact rfl; exact rfl; exact rfl; exact (rfl : _ = wcell (nw (k) text p (n)))))
      (apply TL.buildSlice (l := wcell (nw (k) text p (n))); exact rfl; exact tb rfl; exact rfl; exact tb rfl; exact rfl; exact rfl; exact rfl; exact rfl; exact rfl)
      intro b53
      (apply TL.append 1; exact rfl; exact rfl; exact tb rfl; exact rfl; exact tb rfl; exact rfl; exact rfl; exact rfl)
      · exact fun _ h => h
      · exact rfl
      · exact has_src_row 0 rfl rfl
      · intro u hu
        simp only [wcell, List.mem_cons, List.not_mem_nil, or_false] at hu
        rcases hu with rfl | rfl | rfl <;> rfl
      · show (l.length + 1) * 32 ≤ _; omega
      · show l.length + 1 ≤ maxLen; unfold maxLen; omega
      · exact fun _ => (rfl : _ = _ :: _ :: _)
      intro A' c' hc'
      have hlen : (l ++ [nw (k) text p (n)]).length = l.length + 1 := by rw [List.length_append]; rfl
      rw [wcells_snoc]
      refine m_run ?_
      refine TL.know (t := 58) (v := .int .i64 ((p + n : Nat) : Int)) (congrArg (Value.int .i64) (by rw [i64_in (by omega) (by omega)]; omega)) ?_
      refine TL.know (t := 60) (v := .int .i64 ((p + n : Nat) : Int)) (congrArg (Value.int .i64) (by rw [i64_in (by omega) (by omega)]; omega)) ?_
      (apply TL.callV; exact rfl; exact callB_of (by kernel_rfl); exact rfl; exact fun _ h => h)
      exact rblanks_t text (p + n) _ (by omega) (by omega)
      rintro _ _ ⟨rfl, rfl⟩
      have hbl := blk_len (text.drop (p + n))
      rw [List.length_drop] at hbl
      have hnext := lexA_skip (p + n) (text.drop (p + n))
      have hdr := blk_drop (text.drop (p + n))
      have hbb := blk_blk (text.drop (p + n))
      rw [List.length_drop] at hnext
      rw [List.drop_drop, List.length_drop] at hdr
      generalize hq : text.length - (p + n) - (blk (text.drop (p + n))).length = q at *
      rw [← hdr] at hnext hbb
      have hlex2 : lexA 0 text = both (.ok (l ++ [nw (k) text p (n)])) (lexA (p + n + q) (text.drop (p + n + q))) := by
        rw [hlex, hd, lexA_word hb h37 htok, both_ok_map, ← hd, List.drop_drop, hnext]
        rfl
      refine m_run ?_
      refine TK.sub (Δ := own 49 3 (.slice A' (l.length + 1) c') (l.length + 1) (wcells (l ++ [nw (k) text p (n)])) :: Γ) (by (repeat (first | exact List.Sublist.refl _ | apply List.Sublist.cons_cons | apply List.Sublist.cons))) ?_
      refine IH (text.length - (p + n + q)) _ _ (by omega) ⟨p + n + q, l ++ [nw (k) text p (n)], A', c', by omega, by rw [hlen]; omega, by rw [hlen]; exact hc', hbb, hlex2, rfl, by rw [hlen]; rfl, congrArg (Value.int .i64) (by rw [i64_in (by omega) (by omega)]; omega), by rw [hlen]; unfold ownR; rw [hlen]⟩

    · rw [hm]
      obtain ⟨W, hW⟩ : ∃ W, (c :: s).takeWhile isL = W := ⟨_, rfl⟩
      have hWt := takeW_take isL (c :: s)
      have hWl := takeW_len isL (c :: s)
      rw [hW] at htok hWt hWl
      refine m_run ?_
      (apply TL.callV; exact rfl; exact callB_of (by kernel_rfl); exact rfl; exact fun _ h => h)
      exact rletters_t text p _ (by omega) (by omega)
      rintro _ _ ⟨rfl, rfl⟩
      rw [hd, hW]
      by_cases hbad : W.length = 0 ∨ 32 < W.length
      · rw [if_pos hbad] at htok
        rw [hlex, hd, lexA_wrong hb h37 htok]
        have hfin : ∀ {x}, RWordsR x (both (.ok l) (.error p)) = RWordsR x (.error p) := rfl
        rw [hfin]
        rcases hbad with h | h
        · refine m_run ?_
          (apply TK.retS3; exact rfl; exact rfl; (exact m_val); (exact m_val); (exact m_val))
          · exact ⟨_, rfl, rfl, rfl⟩
          · (repeat (first | exact List.Sublist.refl _ | apply List.Sublist.cons_cons | apply List.Sublist.cons))
        · refine m_run ?_
          (apply TK.retS3; exact rfl; exact rfl; (exact m_val); (exact m_val); (exact m_val))
          · exact ⟨_, rfl, rfl, rfl⟩
          · (repeat (first | exact List.Sublist.refl _ | apply List.Sublist.cons_cons | apply List.Sublist.cons))
      · rw [if_neg hbad] at htok
        have h0 : W.length ≠ 0 := fun h => hbad (.inl h)
        have h32 : ¬ 32 < W.length := fun h => hbad (.inr h)
        refine m_run ?_
        refine TL.know (t := 40) (v := .int .i64 ((p + W.length : Nat) : Int)) (congrArg (Value.int .i64) (by rw [i64_in (by omega) (by omega)]; omega)) ?_
        (apply TL.pv; exact rfl; (apply PV.sliceStr (i := p) (j := p + W.length) (l := text); exact rfl; exact tb rfl; exact rfl; exact .some rfl; exact .some rfl; exact (by omega); exact (by omega)))
        refine TL.know (t := 41) (v := .string (S W)) (congrArg (fun z => Value.string (S z)) (by rw [Nat.add_sub_cancel_left, hd]; exact hWt)) ?_
        obtain ⟨wc, wr, hwc⟩ : ∃ wc wr, W = wc :: wr := by
          cases W with
          | nil => exact absurd rfl h0
          | cons wc wr => exact ⟨wc, wr, rfl⟩
        (apply TL.callV; exact rfl; exact callB_of (by kernel_rfl); exact rfl; exact fun _ h => h)
        exact hwc ▸ rkind_t wc wr _
        rintro _ _ ⟨rfl, rfl⟩
        refine m_run ?_
        refine TL.know (t := 49) (v := .int .i64 ((p + W.length : Nat) : Int)) (congrArg (Value.int .i64) (by rw [i64_in (by omega) (by omega)]; omega)) ?_
        (apply TL.pv; exact rfl; (apply PV.sliceStr (i := p) (j := p + W.length) (l := text); exact rfl; exact tb rfl; exact rfl; exact .some rfl; exact .some rfl; exact (by omega); exact (by omega)))
        refine TL.know (t := 50) (v := .string (S ((text.drop p).take (W.length)))) (congrArg (fun z => Value.string (S z)) (by rw [Nat.add_sub_cancel_left])) ?_
        refine m_run ?_
        (apply TL.pv; exact rfl; (apply PV.build tabs; exact rfl; exact rfl; exact rfl; exact rfl; exact rfl; exact (rfl : _ = wcell (nw (kindW W) text p (W.length)))))
        (apply TL.buildSlice (l := wcell (nw (kindW W) text p (W.length))); exact rfl; exact tb rfl; exact rfl; exact tb rfl; exact rfl; exact rfl; exact rfl; exact rfl; exact rfl)
        intro b53
        (apply TL.append 1; exact rfl; exact rfl; exact tb rfl; exact rfl; exact tb rfl; exact rfl; exact rfl; exact rfl)
        · exact fun _ h => h
        · exact rfl
        · exact has_src_row 0 rfl rfl
        · intro u hu
          simp only [wcell, List.mem_cons, List.not_mem_nil, or_false] at hu
          rcases hu with rfl | rfl | rfl <;> rfl
        · show (l.length + 1) * 32 ≤ _; omega
        · show l.length + 1 ≤ maxLen; unfold maxLen; omega
        · exact fun _ => (rfl : _ = _ :: _ :: _)
        intro A' c' hc'
        have hlen : (l ++ [nw (kindW W) text p (W.length)]).length = l.length + 1 := by rw [List.length_append]; rfl
        rw [wcells_snoc]
        refine m_run ?_
        refine TL.know (t := 58) (v := .int .i64 ((p + W.length : Nat) : Int)) (congrArg (Value.int .i64) (by rw [i64_in (by omega) (by omega)]; omega)) ?_
        refine TL.know (t := 60) (v := .int .i64 ((p + W.length : Nat) : Int)) (congrArg (Value.int .i64) (by rw [i64_in (by omega) (by omega)]; omega)) ?_
        (apply TL.callV; exact rfl; exact callB_of (by kernel_rfl); exact rfl; exact fun _ h => h)
        exact rblanks_t text (p + W.length) _ (by omega) (by omega)
        rintro _ _ ⟨rfl, rfl⟩
        have hbl := blk_len (text.drop (p + W.length))
        rw [List.length_drop] at hbl
        have hnext := lexA_skip (p + W.length) (text.drop (p + W.length))
        have hdr := blk_drop (text.drop (p + W.length))
        have hbb := blk_blk (text.drop (p + W.length))
        rw [List.length_drop] at hnext
        rw [List.drop_drop, List.length_drop] at hdr
        generalize hq : text.length - (p + W.length) - (blk (text.drop (p + W.length))).length = q at *
        rw [← hdr] at hnext hbb
        have hlex2 : lexA 0 text = both (.ok (l ++ [nw (kindW W) text p (W.length)])) (lexA (p + W.length + q) (text.drop (p + W.length + q))) := by
          rw [hlex, hd, lexA_word hb h37 htok, both_ok_map, ← hd, List.drop_drop, hnext]
          rfl
        refine m_run ?_
        refine TK.sub (Δ := own 49 3 (.slice A' (l.length + 1) c') (l.length + 1) (wcells (l ++ [nw (kindW W) text p (W.length)])) :: Γ) (by (repeat (first | exact List.Sublist.refl _ | apply List.Sublist.cons_cons | apply List.Sublist.cons))) ?_
        refine IH (text.length - (p + W.length + q)) _ _ (by omega) ⟨p + W.length + q, l ++ [nw (kindW W) text p (W.length)], A', c', by omega, by rw [hlen]; omega, by rw [hlen]; exact hc', hbb, hlex2, rfl, by rw [hlen]; rfl, congrArg (Value.int .i64) (by rw [i64_in (by omega) (by omega)]; omega), by rw [hlen]; unfold ownR; rw [hlen]⟩

  · have hdp : text.drop p = [] := List.drop_of_length_le (by omega)
    rw [hdp, lexA_nil] at hlex
    have hle : lexA 0 text = .ok l := by rw [hlex]; simp [both, Except.map]
    rw [hle]
    refine m_run ?_
    (apply TK.retS3; exact rfl; exact rfl; (exact m_val); (exact m_val); (exact m_val))
    · exact ⟨_, rfl, A, cap, hlc, rfl, rfl⟩
    · (repeat (first | exact List.Sublist.refl _ | apply List.Sublist.cons_cons | apply List.Sublist.cons))
end Go.Proofs.YtebeckkkckijeaaDoor.E
