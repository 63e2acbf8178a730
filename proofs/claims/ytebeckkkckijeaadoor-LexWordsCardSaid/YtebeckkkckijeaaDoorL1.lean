/- The words of a text: what follows. No program in sight. -/
import Derived.Test.YtebeckkkckijeaaDoorL0
namespace Go.Proofs.YtebeckkkckijeaaDoor.E
def Wrd.shift (q : Nat) (w : Wrd) : Wrd := ⟨w.kind, w.text, w.pos + q⟩
def shiftR (q : Nat) : Except Nat (List Wrd) → Except Nat (List Wrd)
  | .ok l => .ok (l.map (·.shift q))
  | .error e => .error (e + q)
theorem shiftR_map (q : Nat) (w : Wrd) (r : Except Nat (List Wrd)) : shiftR q (r.map (w :: ·)) = (shiftR q r).map (w.shift q :: ·) := by cases r <;> rfl
theorem lexA_shift (q : Nat) : ∀ (n p : Nat) (s : List UInt8), s.length ≤ n → lexA (p + q) s = shiftR q (lexA p s) := by
  intro n
  induction n with
  | zero =>
    intro p s h
    have : s = [] := List.length_eq_zero_iff.1 (by omega)
    subst this
    rw [lexA_nil, lexA_nil]; rfl
  | succ n ih =>
    intro p s h
    have hb := blk_len s
    rw [lexA_eq, lexA_eq p]
    split
    · rfl
    · rename_i c r he
      rw [he] at hb
      split
      · simp only [shiftR]; congr 1; omega
      · rename_i k m ht
        have hl := tok_len ht
        rw [show p + q + (s.length - (c :: r).length) + m = p + (s.length - (c :: r).length) + m + q by omega, ih _ _ (by rw [List.length_drop]; omega), shiftR_map]
        simp only [Wrd.shift]
        rw [show p + q + (s.length - (c :: r).length) = p + (s.length - (c :: r).length) + q by omega]
theorem lexA_at (p : Nat) (s : List UInt8) : lexA p s = shiftR p (lexA 0 s) := by
  have := lexA_shift p s.length 0 s (Nat.le_refl _)
  rwa [Nat.zero_add] at this
/-! ### two texts -/
theorem takeW_sep {d : UInt8} (hd : isL d = false) (b : List UInt8) : ∀ s : List UInt8, (s ++ d :: b).takeWhile isL = s.takeWhile isL
  | [] => by simp [hd]
  | c :: s => by
    rw [List.cons_append, List.takeWhile_cons, List.takeWhile_cons, takeW_sep hd b s]
theorem sep_not {d : UInt8} (h : isB d = true ∨ d = 37) : isL d = false ∧ d ≠ 45 := by
  have : ∀ d : UInt8, (isB d = true ∨ d = 37) → isL d = false ∧ d ≠ 45 := by
    intro d hd
    rcases hd with hd | rfl
    · simp only [isB, Bool.or_eq_true, beq_iff_eq] at hd
      rcases hd with ((rfl | rfl) | rfl) | rfl <;> decide
    · decide
  exact this d h
theorem tok_sep {d : UInt8} (hd : isB d = true ∨ d = 37) (c : UInt8) (s b : List UInt8) : tok (c :: s ++ d :: b) = tok (c :: s) := by
  obtain ⟨h1, h2⟩ := sep_not hd
  have h3 := takeW_sep h1 b (c :: s)
  have h4 : (s ++ d :: b).head? = some 45 ↔ s.head? = some 45 := by
    cases s with
    | nil => simp [h2]
    | cons e s => simp
  rw [List.cons_append] at h3 ⊢
  simp only [tok, h3]
  split
  · rfl
  · split
    · by_cases h5 : s.head? = some 45
      · rw [if_pos h5, if_pos (h4.2 h5)]
      · rw [if_neg h5, if_neg (fun h => h5 (h4.1 h))]
    · rfl
theorem skipC_has {s : List UInt8} (h : (10 : UInt8) ∈ s) (t : List UInt8) : skipC (s ++ t) = skipC s ++ t := by
  induction s with
  | nil => cases h
  | cons c s ih =>
    rw [List.cons_append]
    simp only [skipC]
    by_cases hc : c = 10
    · rw [if_pos hc, if_pos hc]
    · rw [if_neg hc, if_neg hc]
      exact ih (by simpa [Ne.symm hc] using h)
theorem skipC_no {s : List UInt8} (h : (10 : UInt8) ∉ s) (t : List UInt8) : skipC (s ++ t) = skipC t := by
  induction s with
  | nil => rfl
  | cons c s ih =>
    simp only [List.mem_cons, not_or] at h
    rw [List.cons_append]
    simp only [skipC]
    rw [if_neg (Ne.symm h.1)]
    exact ih h.2
/-- Two texts, an end of a line between. -/
def both (l : Except Nat (List Wrd)) (r : Except Nat (List Wrd)) : Except Nat (List Wrd) := match l with
  | .error e => .error e
  | .ok l => r.map (l ++ ·)
theorem both_ok_nil (r : Except Nat (List Wrd)) : both (.ok []) r = r := by cases r <;> rfl
theorem both_map (w : Wrd) (l r : Except Nat (List Wrd)) : both (l.map (w :: ·)) r = (both l r).map (w :: ·) := by
  cases l with
  | error e => rfl
  | ok l => cases r <;> rfl
theorem lexA_two (b : List UInt8) : ∀ (n p : Nat) (a : List UInt8), a.length ≤ n → lexA p (a ++ 10 :: b) = both (lexA p a) (lexA (p + a.length + 1) b) := by
  intro n
  induction n with
  | zero =>
    intro p a h
    have : a = [] := List.length_eq_zero_iff.1 (by omega)
    subst this
    rw [List.nil_append, lexA_blank (by decide) (by decide), lexA_nil, both_ok_nil]
    rfl
  | succ n ih =>
    intro p a h
    cases a with
    | nil =>
      rw [List.nil_append, lexA_blank (by decide) (by decide), lexA_nil, both_ok_nil]
      rfl
    | cons c s =>
      simp only [List.length_cons] at h
      by_cases hc : c = 37
      · subst hc
        have hl := skipC_len s
        rw [List.cons_append, lexA_remark, lexA_remark]
        by_cases h10 : (10 : UInt8) ∈ s
        · rw [skipC_has h10, ih _ (skipC s) (by omega)]
          simp only [List.length_append, List.length_cons]
          rw [show p + (s.length + (b.length + 1) + 1 - ((skipC s).length + (b.length + 1))) = p + (s.length + 1 - (skipC s).length) by omega,
            show p + (s.length + 1 - (skipC s).length) + (skipC s).length + 1 = p + (s.length + 1) + 1 by omega]
        · have h2 := skipC_no h10 []
          rw [List.append_nil] at h2
          have h3 : skipC s = [] := h2
          rw [skipC_no h10, h3, lexA_nil, both_ok_nil]
          have h4 : skipC (10 :: b) = b := by simp [skipC]
          rw [h4]
          simp only [List.length_append, List.length_cons]
          rw [show p + (s.length + (b.length + 1) + 1 - b.length) = p + (s.length + 1) + 1 by omega]
      · cases hb : isB c with
        | true =>
          rw [List.cons_append, lexA_blank hb hc, lexA_blank hb hc, ih _ s (by omega)]
          simp only [List.length_cons]
          rw [show p + 1 + s.length + 1 = p + (s.length + 1) + 1 by omega]
        | false =>
          have ht := tok_sep (d := 10) (.inl (by decide)) c s b
          cases hk : tok (c :: s) with
          | none =>
            rw [List.cons_append] at ht ⊢
            rw [lexA_wrong hb hc (ht.trans hk), lexA_wrong hb hc hk]
            rfl
          | some kn =>
            obtain ⟨k, m⟩ := kn
            have hl := tok_len hk
            rw [hk] at ht
            rw [List.cons_append] at ht ⊢
            rw [lexA_word hb hc ht, lexA_word hb hc hk, both_map, ← List.cons_append, List.drop_append_of_le_length hl.2, List.take_append_of_le_length hl.2, ih _ _ (by rw [List.length_drop]; simp only [List.length_cons] at hl ⊢; omega)]
            rw [List.length_drop, show p + m + ((c :: s).length - m) + 1 = p + (c :: s).length + 1 by omega]
/-! ### where words stand -/
theorem lexA_err {p e : Nat} {s : List UInt8} (h : lexA p s = .error e) : p ≤ e ∧ e < p + s.length := by
  have key : ∀ (n p e : Nat) (s : List UInt8), s.length ≤ n → lexA p s = .error e → p ≤ e ∧ e < p + s.length := by
    intro n
    induction n with
    | zero =>
      intro p e s hn h
      have : s = [] := List.length_eq_zero_iff.1 (by omega)
      subst this
      rw [lexA_nil] at h; cases h
    | succ n ih =>
      intro p e s hn h
      have hb := blk_len s
      rw [lexA_eq] at h
      split at h
      · cases h
      · rename_i c r he
        rw [he] at hb
        simp only [List.length_cons] at hb
        split at h
        · injection h with h
          simp only [List.length_cons] at h
          omega
        · rename_i k m ht
          have hl := tok_len ht
          simp only [List.length_cons] at hl h
          cases hx : lexA (p + (s.length - (r.length + 1)) + m) ((c :: r).drop m) with
          | ok l => rw [hx] at h; cases h
          | error e2 =>
            rw [hx] at h
            injection h with h
            subst h
            have := ih _ _ _ (by rw [List.length_drop]; simp only [List.length_cons]; omega) hx
            rw [List.length_drop] at this
            simp only [List.length_cons] at this
            omega
  exact key s.length p e s (Nat.le_refl _) h
/-- What stands ahead of the first word: blanks and remarks, whatever comes behind. -/
theorem blk_pre {c : UInt8} {r : List UInt8} : ∀ (n : Nat) (s : List UInt8), s.length ≤ n → blk s = c :: r → ∃ pre, s = pre ++ c :: r ∧ ∀ y, blk (pre ++ y) = blk y := by
  intro n
  induction n with
  | zero =>
    intro s hn h
    have : s = [] := List.length_eq_zero_iff.1 (by omega)
    subst this
    rw [blk_nil] at h; cases h
  | succ n ih =>
    intro s hn h
    cases s with
    | nil => rw [blk_nil] at h; cases h
    | cons d s =>
      simp only [List.length_cons] at hn
      rw [blk_cons] at h
      split at h
      · rename_i hd
        subst hd
        have hl := skipC_len s
        obtain ⟨pre, h1, h2⟩ := ih (skipC s) (by omega) h
        have h10 : (10 : UInt8) ∈ s := by
          apply Classical.byContradiction
          intro hx
          have h3 := skipC_no hx []
          rw [List.append_nil] at h3
          have h4 : skipC s = [] := h3
          rw [h4, blk_nil] at h; cases h
        obtain ⟨q, hq1, hq2⟩ : ∃ q, s = q ++ skipC s ∧ ∀ y, skipC (q ++ y) = y := by
          clear ih h h1 h2 hl hn
          induction s with
          | nil => cases h10
          | cons e s ih2 =>
            by_cases he : e = 10
            · subst he
              exact ⟨[10], by simp [skipC], fun y => by simp [skipC]⟩
            · obtain ⟨q, h1, h2⟩ := ih2 (by simpa [Ne.symm he] using h10)
              refine ⟨e :: q, by simp only [skipC]; rw [if_neg he, List.cons_append, ← h1], fun y => by rw [List.cons_append]; simp only [skipC]; rw [if_neg he]; exact h2 y⟩
        refine ⟨37 :: (q ++ pre), by rw [List.cons_append, List.append_assoc, ← h1, ← hq1], fun y => ?_⟩
        rw [List.cons_append, blk_cons, if_pos rfl, List.append_assoc, hq2, h2]
      · rename_i hd
        split at h
        · rename_i hb
          obtain ⟨pre, h1, h2⟩ := ih s (by omega) h
          refine ⟨d :: pre, by rw [List.cons_append, ← h1], fun y => ?_⟩
          rw [List.cons_append, blk_cons, if_neg hd, if_pos hb, h2]
        · exact ⟨[], by rw [List.nil_append, h], fun y => rfl⟩
end Go.Proofs.YtebeckkkckijeaaDoor.E
