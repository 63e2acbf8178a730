/- The words of a text: blanks, wiping, joining, ends. No program in sight. -/
import Derived.Test.YtebeckkkckijeaaDoorL1
namespace Go.Proofs.YtebeckkkckijeaaDoor.E
/-! ### blanks -/
def piece (i : Nat) : List UInt8 := match i with
  | 0 => [32]
  | 1 => [9]
  | 2 => [10]
  | 3 => [13]
  | _ => [37, 32, 115, 97, 105, 100, 32, 40, 32, 97, 10]
def pieces (l : List Nat) : List UInt8 := l.flatMap piece
theorem pieces_cons (i : Nat) (l : List Nat) : pieces (i :: l) = piece i ++ pieces l := rfl
theorem piece_lex (i p : Nat) (y : List UInt8) : lexA p (piece i ++ y) = lexA (p + (piece i).length) y := by
  match i with
  | 0 => exact lexA_blank (by decide) (by decide) p y
  | 1 => exact lexA_blank (by decide) (by decide) p y
  | 2 => exact lexA_blank (by decide) (by decide) p y
  | 3 => exact lexA_blank (by decide) (by decide) p y
  | n + 4 =>
    show lexA p (37 :: (32 :: 115 :: 97 :: 105 :: 100 :: 32 :: 40 :: 32 :: 97 :: 10 :: y)) = lexA (p + 11) y
    rw [lexA_remark]
    have h : skipC (32 :: 115 :: 97 :: 105 :: 100 :: 32 :: 40 :: 32 :: 97 :: 10 :: y) = y := by simp [skipC]
    rw [h]
    simp only [List.length_cons]
    rw [show p + (y.length + 1 + 1 + 1 + 1 + 1 + 1 + 1 + 1 + 1 + 1 + 1 - y.length) = p + 11 by omega]
theorem pieces_lex (y : List UInt8) : ∀ (l : List Nat) (p : Nat), lexA p (pieces l ++ y) = lexA (p + (pieces l).length) y
  | [], p => rfl
  | i :: l, p => by
    rw [pieces_cons, List.append_assoc, piece_lex, pieces_lex y l, List.length_append]
    congr 1; omega
theorem pieces_nil (l : List Nat) (p : Nat) : lexA p (pieces l) = .ok [] := by
  have := pieces_lex [] l p
  rw [List.append_nil] at this
  rw [this, lexA_nil]
theorem pieces_skip : ∀ l : List Nat, ∃ l', skipC (pieces l) = pieces l'
  | [] => ⟨[], rfl⟩
  | i :: l => by
    obtain ⟨l', h⟩ := pieces_skip l
    rw [pieces_cons]
    match i with
    | 0 => exact ⟨l', h⟩
    | 1 => exact ⟨l', h⟩
    | 2 => exact ⟨l, rfl⟩
    | 3 => exact ⟨l', h⟩
    | n + 4 => exact ⟨l, rfl⟩
theorem pieces_head {l : List Nat} {d : UInt8} {t : List UInt8} (h : pieces l = d :: t) : isB d = true ∨ d = 37 := by
  cases l with
  | nil => cases h
  | cons i l =>
    rw [pieces_cons] at h
    match i with
    | 0 => injection h with h _; subst h; exact .inl (by decide)
    | 1 => injection h with h _; subst h; exact .inl (by decide)
    | 2 => injection h with h _; subst h; exact .inl (by decide)
    | 3 => injection h with h _; subst h; exact .inl (by decide)
    | n + 4 => injection h with h _; subst h; exact .inr rfl
theorem lexA_behind (l : List Nat) : ∀ (n p : Nat) (b : List UInt8), b.length ≤ n → lexA p (b ++ pieces l) = lexA p b := by
  intro n
  induction n with
  | zero =>
    intro p b h
    have : b = [] := List.length_eq_zero_iff.1 (by omega)
    subst this
    rw [List.nil_append, pieces_nil, lexA_nil]
  | succ n ih =>
    intro p b h
    cases b with
    | nil => rw [List.nil_append, pieces_nil, lexA_nil]
    | cons c s =>
      simp only [List.length_cons] at h
      by_cases hc : c = 37
      · subst hc
        have hl := skipC_len s
        rw [List.cons_append, lexA_remark, lexA_remark]
        by_cases h10 : (10 : UInt8) ∈ s
        · rw [skipC_has h10, ih _ (skipC s) (by omega)]
          simp only [List.length_append]
          rw [show p + (s.length + (pieces l).length + 1 - ((skipC s).length + (pieces l).length)) = p + (s.length + 1 - (skipC s).length) by omega]
        · have h2 := skipC_no h10 []
          rw [List.append_nil] at h2
          have h3 : skipC s = [] := h2
          obtain ⟨l', hl'⟩ := pieces_skip l
          rw [skipC_no h10, h3, lexA_nil, hl', pieces_nil]
      · cases hb : isB c with
        | true => rw [List.cons_append, lexA_blank hb hc, lexA_blank hb hc, ih _ s (by omega)]
        | false =>
          cases hp : pieces l with
          | nil => rw [List.append_nil]
          | cons d t =>
            have ht := tok_sep (pieces_head hp) c s t
            rw [← hp] at ht ⊢
            cases hk : tok (c :: s) with
            | none =>
              rw [List.cons_append] at ht ⊢
              rw [lexA_wrong hb hc (ht.trans hk), lexA_wrong hb hc hk]
            | some kn =>
              obtain ⟨k, m⟩ := kn
              have hl := tok_len hk
              rw [hk] at ht
              rw [List.cons_append] at ht ⊢
              rw [lexA_word hb hc ht, lexA_word hb hc hk, ← List.cons_append, List.drop_append_of_le_length hl.2, List.take_append_of_le_length hl.2, ih _ _ (by rw [List.length_drop]; simp only [List.length_cons] at hl ⊢; omega)]
theorem lexA_blanks (l : List Nat) (a b : List UInt8) : lexA 0 (pieces l ++ a ++ 10 :: (pieces l ++ b ++ pieces l)) = both (lexA (pieces l).length a) (lexA ((pieces l).length + a.length + 1 + (pieces l).length) b) := by
  rw [List.append_assoc, pieces_lex, Nat.zero_add, lexA_two _ a.length _ _ (Nat.le_refl _), List.append_assoc, pieces_lex, lexA_behind l b.length _ _ (Nat.le_refl _)]
/-! ### where words stand; wiping them -/
def standing (t : List UInt8) : Nat → List Wrd → Prop
  | _, [] => True
  | last, w :: l => 0 < w.text.length ∧ last ≤ w.pos ∧ w.pos + w.text.length ≤ t.length ∧ (t.drop w.pos).take w.text.length = w.text ∧ standing t (w.pos + w.text.length) l
def wipe1 (t : List UInt8) (w : Wrd) : List UInt8 := t.take w.pos ++ List.replicate w.text.length 32 ++ t.drop (w.pos + w.text.length)
/-- A word that stands alone is it. -/
def Good (w : Wrd) : Prop := ∃ c r, w.text = c :: r ∧ isB c = false ∧ c ≠ 37 ∧ tok w.text = some (w.kind, w.text.length)
theorem takeW_take (p : UInt8 → Bool) : ∀ s : List UInt8, s.take (s.takeWhile p).length = s.takeWhile p
  | [] => rfl
  | c :: s => by
    rw [List.takeWhile_cons]
    split
    · rw [List.length_cons, List.take_succ_cons, takeW_take p s]
    · rfl
theorem takeW_idem (p : UInt8 → Bool) : ∀ s : List UInt8, (s.takeWhile p).takeWhile p = s.takeWhile p
  | [] => rfl
  | c :: s => by
    rw [List.takeWhile_cons]
    split
    · rename_i h
      rw [List.takeWhile_cons, if_pos h, takeW_idem p s]
    · rfl
theorem tok_take {c : UInt8} {r : List UInt8} {k n : Nat} (h : tok (c :: r) = some (k, n)) : tok ((c :: r).take n) = some (k, n) := by
  have h0 := h
  simp only [tok] at h
  split at h
  · rename_i k2 hm
    injection h with h; injection h with h1 h2; subst h1; subst h2
    rw [List.take_succ_cons, List.take_zero]
    simp only [tok, hm]
  · rename_i hm
    split at h
    · rename_i hc
      split at h
      · rename_i hh
        injection h with h; injection h with h1 h2; subst h1; subst h2
        cases r with
        | nil => simp at hh
        | cons d r =>
          have hd : d = 45 := by simpa using hh
          subst hd; subst hc
          rfl
      · cases h
    · rename_i hc
      split at h
      · cases h
      · rename_i hn
        injection h with h; injection h with h1 h2; subst h1; subst h2
        have ht := takeW_take isL (c :: r)
        have hi := takeW_idem isL (c :: r)
        have hcl : isL c = true := by
          cases hx : isL c with
          | true => rfl
          | false => rw [List.takeWhile_cons, hx] at hn; simp at hn
        rw [ht]
        have hw : (c :: r).takeWhile isL = c :: r.takeWhile isL := by rw [List.takeWhile_cons, if_pos hcl]
        rw [hw] at hi hn ⊢
        simp only [tok, hm, if_neg hc, hi, if_neg hn]
theorem lexA_facts : ∀ (n p : Nat) (pre s : List UInt8) (l : List Wrd), s.length ≤ n → pre.length = p → lexA p s = .ok l → standing (pre ++ s) p l ∧ (∀ w ∈ l, Good w) ∧ ∃ s', l.foldl wipe1 (pre ++ s) = pre ++ s' ∧ s'.length = s.length ∧ blk s' = [] := by
  intro n
  induction n with
  | zero =>
    intro p pre s l hn hp h
    have : s = [] := List.length_eq_zero_iff.1 (by omega)
    subst this
    rw [lexA_nil] at h
    injection h with h
    subst h
    exact ⟨trivial, (fun _ h => nomatch h), [], rfl, rfl, rfl⟩
  | succ n ih =>
    intro p pre s l hn hp h
    have hb := blk_len s
    rw [lexA_eq] at h
    split at h
    · rename_i he
      injection h with h
      subst h
      exact ⟨trivial, (fun _ h => nomatch h), s, rfl, rfl, he⟩
    · rename_i c r he
      obtain ⟨q, hs, hq⟩ := blk_pre s.length s (Nat.le_refl _) he
      split at h
      · cases h
      · rename_i k m ht
        have hl := tok_len ht
        have hql : s.length - (c :: r).length = q.length := by rw [hs, List.length_append]; omega
        rw [hql] at h
        cases hx : lexA (p + q.length + m) ((c :: r).drop m) with
        | error e => rw [hx] at h; cases h
        | ok l2 =>
          rw [hx] at h
          injection h with h
          subst h
          have hsl : s.length = q.length + (c :: r).length := by rw [hs, List.length_append]
          have htl : ((c :: r).take m).length = m := by rw [List.length_take]; omega
          obtain ⟨i1, i2, s2, i3, i4, i5⟩ := ih (p + q.length + m) (pre ++ q ++ (c :: r).take m) ((c :: r).drop m) l2 (by rw [List.length_drop]; omega) (by rw [List.length_append, List.length_append, htl, hp]) hx
          have e1 : pre ++ q ++ (c :: r).take m ++ (c :: r).drop m = pre ++ s := by rw [List.append_assoc (pre ++ q), List.take_append_drop, List.append_assoc, ← hs]
          obtain ⟨_, _, s3, j3, j4, j5⟩ := ih (p + q.length + m) (pre ++ q ++ List.replicate m 32) ((c :: r).drop m) l2 (by rw [List.length_drop]; omega) (by rw [List.length_append, List.length_append, List.length_replicate, hp]) hx
          have hpq : (pre ++ q).length = p + q.length := by rw [List.length_append, hp]
          have e2 : pre ++ s = (pre ++ q) ++ (c :: r) := by rw [List.append_assoc, ← hs]
          have hw : wipe1 (pre ++ s) ⟨k, (c :: r).take m, p + q.length⟩ = pre ++ q ++ List.replicate m 32 ++ (c :: r).drop m := by
            simp only [wipe1, htl]
            rw [e2, List.take_append_of_le_length (by omega), List.take_of_length_le (by omega), List.drop_append, List.drop_of_length_le (by omega), List.nil_append, hpq, Nat.add_sub_cancel_left]
          rw [e1] at i1
          refine ⟨⟨?_, Nat.le_add_right _ _, ?_, ?_, ?_⟩, ?_, ?_⟩
          · show 0 < ((c :: r).take m).length
            omega
          · show p + q.length + ((c :: r).take m).length ≤ (pre ++ s).length
            rw [htl, List.length_append, hp, hsl]; omega
          · show ((pre ++ s).drop (p + q.length)).take ((c :: r).take m).length = (c :: r).take m
            rw [e2, htl, List.drop_append, List.drop_of_length_le (by omega), List.nil_append, hpq, Nat.sub_self, List.drop_zero]
          · show standing (pre ++ s) (p + q.length + ((c :: r).take m).length) l2
            rw [htl]; exact i1
          · intro w hw
            rcases List.mem_cons.1 hw with rfl | hw
            · have hnb : isB c = false ∧ c ≠ 37 := by
                have hz := hq (c :: r)
                rw [← hs, he] at hz
                have hy := blk_cons c r
                rw [← hz] at hy
                have hr := blk_len r
                have hk := skipC_len r
                have hk2 := blk_len (skipC r)
                constructor
                · cases hbb : isB c with
                  | false => rfl
                  | true =>
                    exfalso
                    rw [hbb] at hy
                    split at hy
                    · have := congrArg List.length hy; simp only [List.length_cons] at this; omega
                    · have := congrArg List.length hy; simp only [List.length_cons, if_true] at this; omega
                · intro hcc
                  rw [if_pos hcc] at hy
                  have := congrArg List.length hy; simp only [List.length_cons] at this; omega
              obtain ⟨m2, rfl⟩ : ∃ z, m = z + 1 := ⟨m - 1, by omega⟩
              refine ⟨c, r.take m2, List.take_succ_cons, hnb.1, hnb.2, ?_⟩
              show tok ((c :: r).take (m2 + 1)) = some (k, ((c :: r).take (m2 + 1)).length)
              rw [tok_take ht, htl]
            · exact i2 w hw
          · refine ⟨q ++ (List.replicate m 32 ++ s3), ?_, ?_, ?_⟩
            · rw [List.foldl_cons, hw, j3]
              simp only [List.append_assoc]
            · rw [List.length_append, List.length_append, List.length_replicate, j4, List.length_drop, hsl]; omega
            · rw [hq]
              have hrep : ∀ (z : Nat) (y : List UInt8), blk (List.replicate z 32 ++ y) = blk y := by
                intro z
                induction z with
                | zero => intro y; rfl
                | succ z ihz =>
                  intro y
                  rw [List.replicate_succ, List.cons_append, blk_cons, if_neg (by decide), if_pos (by decide), ihz]
              rw [hrep, j5]
theorem lexA_wiped {p : Nat} {s : List UInt8} (h : blk s = []) : lexA p s = .ok [] := by rw [lexA_eq, h]
/-! ### words as a text -/
def joinL : List Wrd → List UInt8
  | [] => []
  | w :: l => match l with
    | [] => w.text
    | _ :: _ => w.text ++ 32 :: joinL l
def alike (l m : List Wrd) : Prop := l.map (fun w => (w.kind, w.text)) = m.map (fun w => (w.kind, w.text))
theorem lexA_join : ∀ (l : List Wrd) (p : Nat), (∀ w ∈ l, Good w) → ∃ m, lexA p (joinL l) = .ok m ∧ alike m l
  | [], p, _ => ⟨[], lexA_nil p, rfl⟩
  | w :: l, p, h => by
    obtain ⟨c, r, h1, h2, h3, h4⟩ := h w (List.mem_cons_self ..)
    cases l with
    | nil =>
      show ∃ m, lexA p w.text = .ok m ∧ alike m [w]
      rw [h1] at h4 ⊢
      rw [lexA_word h2 h3 h4, List.drop_of_length_le (Nat.le_refl _), List.take_of_length_le (Nat.le_refl _), lexA_nil]
      exact ⟨[⟨w.kind, c :: r, p⟩], rfl, by simp [alike, h1]⟩
    | cons v l =>
      obtain ⟨m, i1, i2⟩ := lexA_join (v :: l) (p + w.text.length + 1) (fun x hx => h x (List.mem_cons_of_mem _ hx))
      show ∃ m, lexA p (w.text ++ 32 :: joinL (v :: l)) = .ok m ∧ alike m (w :: v :: l)
      have ht := tok_sep (d := 32) (.inl (by decide)) c r (joinL (v :: l))
      rw [h1] at h4 i1 ⊢
      rw [h4, List.cons_append] at ht
      rw [List.cons_append, lexA_word h2 h3 ht, ← List.cons_append, List.drop_append_of_le_length (Nat.le_refl _), List.take_append_of_le_length (Nat.le_refl _), List.drop_of_length_le (Nat.le_refl _), List.nil_append, lexA_blank (by decide) (by decide), i1, List.take_of_length_le (Nat.le_refl _)]
      refine ⟨⟨w.kind, c :: r, p⟩ :: m, rfl, ?_⟩
      unfold alike at i2 ⊢
      rw [List.map_cons, i2]
      simp [h1]
/-! ### ends -/
theorem takeW_rep (n : Nat) : (List.replicate n (120 : UInt8)).takeWhile isL = List.replicate n 120 := by
  induction n with
  | zero => rfl
  | succ n ih => rw [List.replicate_succ, List.takeWhile_cons, if_pos (by decide), ih]
theorem tok_rep (n : Nat) : tok (List.replicate (n + 1) 120) = if 32 < n + 1 then none else some (1, n + 1) := by
  have h := takeW_rep (n + 1)
  rw [List.replicate_succ] at h ⊢
  have hm : markK 120 = none := by decide
  have hk : kindW (120 :: List.replicate n 120) = 1 := by
    unfold kindW
    rw [if_neg (by intro h; injection h with h _; exact absurd h (by decide)), if_neg (by intro h; injection h with h _; exact absurd h (by decide))]
    rfl
  simp only [tok, hm, if_neg (show ¬ (120 : UInt8) = 58 by decide), h, List.length_cons, List.length_replicate, hk]
  split <;> split <;> first | rfl | omega
theorem lex_rep (n : Nat) : lexA 0 (List.replicate (n + 1) 120) = if 32 < n + 1 then .error 0 else .ok [⟨1, List.replicate (n + 1) 120, 0⟩] := by
  have h := tok_rep n
  split
  · rename_i hn
    rw [if_pos hn] at h
    rw [List.replicate_succ] at h ⊢
    exact lexA_wrong (by decide) (by decide) h 0
  · rename_i hn
    rw [if_neg hn] at h
    rw [List.replicate_succ] at h ⊢
    rw [lexA_word (by decide) (by decide) h, List.drop_of_length_le (by simp), List.take_of_length_le (by simp), lexA_nil]
    rfl
theorem blk_rep (n : Nat) : blk (List.replicate n 32) = [] := by
  induction n with
  | zero => rfl
  | succ n ih => rw [List.replicate_succ, blk_cons, if_neg (by decide), if_pos (by decide), ih]
theorem lex_spaces (n : Nat) : lexA 0 (List.replicate 5 32 ++ 120 :: List.replicate n 32) = .ok [⟨1, [120], 5⟩] := by
  have h5 : List.replicate 5 (32 : UInt8) ++ 120 :: List.replicate n 32 = pieces [0, 0, 0, 0, 0] ++ 120 :: List.replicate n 32 := rfl
  have ht : tok (120 :: List.replicate n 32) = some (1, 1) := by
    cases n with
    | zero => rfl
    | succ n =>
      rw [List.replicate_succ]
      have := tok_sep (d := 32) (.inl (by decide)) 120 [] (List.replicate n 32)
      exact this.trans rfl
  rw [h5, pieces_lex, lexA_word (by decide) (by decide) ht, List.drop_succ_cons, List.drop_zero, lexA_wiped (blk_rep n)]
  rfl
end Go.Proofs.YtebeckkkckijeaaDoor.E
