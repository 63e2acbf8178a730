/- The words of a text: the plain law. No program in sight. -/
import Derived.Test.YtebeckkkckijeaaDoorSm
namespace Go.Proofs.YtebeckkkckijeaaDoor.E
def isB (c : UInt8) : Bool := c == 32 || c == 9 || c == 10 || c == 13
def isL (c : UInt8) : Bool := (97 ≤ c && c ≤ 122) || (65 ≤ c && c ≤ 90) || (48 ≤ c && c ≤ 57) || c == 95
/-- Behind the end of this line. -/
def skipC : List UInt8 → List UInt8
  | [] => []
  | c :: s => if c = 10 then s else skipC s
def blkF : Nat → List UInt8 → List UInt8
  | 0, s => s
  | _ + 1, [] => []
  | f + 1, c :: s => if c = 37 then blkF f (skipC s) else if isB c then blkF f s else c :: s
/-- Behind blanks and remarks. -/
def blk (s : List UInt8) : List UInt8 := blkF s.length s
theorem skipC_len : ∀ s : List UInt8, (skipC s).length ≤ s.length
  | [] => Nat.le_refl _
  | c :: s => by
    unfold skipC
    split
    · exact Nat.le_succ _
    · exact Nat.le_succ_of_le (skipC_len s)
theorem blkF_fuel : ∀ (f : Nat) (s : List UInt8), s.length ≤ f → blkF f s = blk s := by
  have h : ∀ (n f g : Nat) (s : List UInt8), s.length ≤ n → s.length ≤ f → s.length ≤ g → blkF f s = blkF g s := by
    intro n
    induction n with
    | zero =>
      intro f g s h _ _
      have : s = [] := List.length_eq_zero_iff.1 (by omega)
      subst this
      cases f <;> cases g <;> rfl
    | succ n ih =>
      intro f g s h hf hg
      cases s with
      | nil => cases f <;> cases g <;> rfl
      | cons c s =>
        simp only [List.length_cons] at h hf hg
        obtain ⟨f, rfl⟩ : ∃ k, f = k + 1 := ⟨f - 1, by omega⟩
        obtain ⟨g, rfl⟩ : ∃ k, g = k + 1 := ⟨g - 1, by omega⟩
        have := skipC_len s
        simp only [blkF]
        rw [ih f g (skipC s) (by omega) (by omega) (by omega), ih f g s (by omega) (by omega) (by omega)]
  intro f s hf
  exact h s.length f s.length s (Nat.le_refl _) hf (Nat.le_refl _)
theorem blk_nil : blk [] = [] := rfl
theorem blk_cons (c : UInt8) (s : List UInt8) : blk (c :: s) = if c = 37 then blk (skipC s) else if isB c then blk s else c :: s := by
  have h1 : blk (c :: s) = blkF (s.length + 1) (c :: s) := rfl
  rw [h1]
  simp only [blkF]
  rw [blkF_fuel _ _ (skipC_len s), blkF_fuel _ _ (Nat.le_refl _)]
theorem blk_len (s : List UInt8) : (blk s).length ≤ s.length := by
  have h : ∀ (n : Nat) (s : List UInt8), s.length ≤ n → (blk s).length ≤ s.length := by
    intro n
    induction n with
    | zero =>
      intro s h
      have : s = [] := List.length_eq_zero_iff.1 (by omega)
      subst this; exact Nat.le_refl _
    | succ n ih =>
      intro s h
      cases s with
      | nil => exact Nat.le_refl _
      | cons c s =>
        simp only [List.length_cons] at h
        have h1 := skipC_len s
        have h2 := ih (skipC s) (by omega)
        have h3 := ih s (by omega)
        rw [blk_cons]
        split
        · simp only [List.length_cons]; omega
        · split
          · simp only [List.length_cons]; omega
          · exact Nat.le_refl _
  exact h s.length s (Nat.le_refl _)
/-- What a word of letters is. -/
def kindW (w : List UInt8) : Nat := if w = [110, 111, 116] then 3 else if w = [115, 97, 121, 115] then 4 else match w with
  | c :: _ => if 65 ≤ c && c ≤ 90 then 2 else 1
  | [] => 1
def markK (c : UInt8) : Option Nat := if c = 40 then some 5 else if c = 41 then some 6 else if c = 44 then some 7 else if c = 46 then some 8 else none
/-- The word that stands ahead: its kind, how many bytes it has. -/
def tok : List UInt8 → Option (Nat × Nat)
  | [] => none
  | c :: s => match markK c with
    | some k => some (k, 1)
    | none => if c = 58 then (if s.head? = some 45 then some (9, 2) else none) else
      let w := (c :: s).takeWhile isL
      if w.length = 0 ∨ 32 < w.length then none else some (kindW w, w.length)
structure Wrd where
  kind : Nat
  text : List UInt8
  pos : Nat
def lexF : Nat → Nat → List UInt8 → Except Nat (List Wrd)
  | 0, _, _ => .ok []
  | f + 1, p, s => match blk s with
    | [] => .ok []
    | c :: r => match tok (c :: r) with
      | none => .error (p + (s.length - (c :: r).length))
      | some (k, n) => (lexF f (p + (s.length - (c :: r).length) + n) ((c :: r).drop n)).map (⟨k, (c :: r).take n, p + (s.length - (c :: r).length)⟩ :: ·)
/-- The words of what is left of a text, from a place on. -/
def lexA (p : Nat) (s : List UInt8) : Except Nat (List Wrd) := lexF (s.length + 1) p s
theorem takeW_len (p : UInt8 → Bool) : ∀ s : List UInt8, (s.takeWhile p).length ≤ s.length
  | [] => Nat.le_refl _
  | c :: s => by
    rw [List.takeWhile_cons]
    split
    · simp only [List.length_cons]; have := takeW_len p s; omega
    · exact Nat.zero_le _
theorem tok_len {s : List UInt8} {k n : Nat} (h : tok s = some (k, n)) : 1 ≤ n ∧ n ≤ s.length := by
  cases s with
  | nil => cases h
  | cons c s =>
    have hw := takeW_len isL (c :: s)
    simp only [tok] at h
    split at h
    · injection h with h; injection h with _ h; subst h; simp
    · split at h
      · split at h
        · rename_i hh
          injection h with h; injection h with _ h; subst h
          cases s with
          | nil => simp at hh
          | cons d s => simp
        · cases h
      · split at h
        · cases h
        · injection h with h; injection h with _ h; subst h; omega
theorem lexF_fuel : ∀ (f p : Nat) (s : List UInt8), s.length + 1 ≤ f → lexF f p s = lexA p s := by
  have h : ∀ (n f g p : Nat) (s : List UInt8), s.length ≤ n → s.length + 1 ≤ f → s.length + 1 ≤ g → lexF f p s = lexF g p s := by
    intro n
    induction n with
    | zero =>
      intro f g p s h hf hg
      have : s = [] := List.length_eq_zero_iff.1 (by omega)
      subst this
      obtain ⟨f, rfl⟩ : ∃ k, f = k + 1 := ⟨f - 1, by omega⟩
      obtain ⟨g, rfl⟩ : ∃ k, g = k + 1 := ⟨g - 1, by omega⟩
      rfl
    | succ n ih =>
      intro f g p s h hf hg
      obtain ⟨f, rfl⟩ : ∃ k, f = k + 1 := ⟨f - 1, by omega⟩
      obtain ⟨g, rfl⟩ : ∃ k, g = k + 1 := ⟨g - 1, by omega⟩
      simp only [lexF]
      have hb := blk_len s
      split
      · rfl
      · rename_i c r he
        rw [he] at hb
        split
        · rfl
        · rename_i k m ht
          have hl := tok_len ht
          rw [ih f g _ _ (by rw [List.length_drop]; omega) (by rw [List.length_drop]; omega) (by rw [List.length_drop]; omega)]
  intro f p s hf
  exact h s.length f (s.length + 1) p s (Nat.le_refl _) hf (Nat.le_refl _)
theorem lexA_eq (p : Nat) (s : List UInt8) : lexA p s = match blk s with
    | [] => .ok []
    | c :: r => match tok (c :: r) with
      | none => .error (p + (s.length - (c :: r).length))
      | some (k, n) => (lexA (p + (s.length - (c :: r).length) + n) ((c :: r).drop n)).map (⟨k, (c :: r).take n, p + (s.length - (c :: r).length)⟩ :: ·) := by
  have hb := blk_len s
  unfold lexA
  simp only [lexF]
  split
  · rfl
  · rename_i c r he
    rw [he] at hb
    split
    · rfl
    · rename_i k m ht
      have hl := tok_len ht
      rw [lexF_fuel s.length _ _ (by rw [List.length_drop]; omega)]
      rfl
/-- A blank ahead, or a remark. -/
theorem lexA_blank {c : UInt8} (h : isB c = true) (hc : c ≠ 37) (p : Nat) (s : List UInt8) : lexA p (c :: s) = lexA (p + 1) s := by
  have hb := blk_len s
  rw [lexA_eq, lexA_eq (p + 1), blk_cons, if_neg hc, if_pos h]
  split
  · rfl
  · rename_i d r he
    rw [he] at hb
    rw [show p + ((c :: s).length - (d :: r).length) = p + 1 + (s.length - (d :: r).length) by simp only [List.length_cons] at hb ⊢; omega]
theorem lexA_remark (p : Nat) (s : List UInt8) : lexA p (37 :: s) = lexA (p + (s.length + 1 - (skipC s).length)) (skipC s) := by
  have hb := blk_len (skipC s)
  have hs := skipC_len s
  rw [lexA_eq, lexA_eq (p + (s.length + 1 - (skipC s).length)), blk_cons, if_pos rfl]
  split
  · rfl
  · rename_i d r he
    rw [he] at hb
    rw [show p + ((37 :: s).length - (d :: r).length) = p + (s.length + 1 - (skipC s).length) + ((skipC s).length - (d :: r).length) by simp only [List.length_cons] at hb ⊢; omega]
/-- A word ahead. -/
theorem lexA_word {c : UInt8} {s : List UInt8} {k n : Nat} (h : isB c = false) (hc : c ≠ 37) (ht : tok (c :: s) = some (k, n)) (p : Nat) : lexA p (c :: s) = (lexA (p + n) ((c :: s).drop n)).map (⟨k, (c :: s).take n, p⟩ :: ·) := by
  rw [lexA_eq, blk_cons, if_neg hc, h]
  simp only [Bool.false_eq_true, if_false, ht, Nat.sub_self, Nat.add_zero]
theorem lexA_wrong {c : UInt8} {s : List UInt8} (h : isB c = false) (hc : c ≠ 37) (ht : tok (c :: s) = none) (p : Nat) : lexA p (c :: s) = .error p := by
  rw [lexA_eq, blk_cons, if_neg hc, h]
  simp only [Bool.false_eq_true, if_false, ht, Nat.sub_self, Nat.add_zero]
theorem lexA_nil (p : Nat) : lexA p [] = .ok [] := by rw [lexA_eq, blk_nil]
end Go.Proofs.YtebeckkkckijeaaDoor.E
