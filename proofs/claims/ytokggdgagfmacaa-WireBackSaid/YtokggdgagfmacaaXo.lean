/- There and back: what was put is taken, what was taken is put as it stood: the plain law. No program in sight. -/
import Derived.Test.YtokggdgagfmacaaXl
namespace Go.Proofs.Ytokggdgagfmacaa.E
open Go Go.RowKit Go.Proofs
/-- A reader that takes just what is put. -/
structure RdOk {α : Type} (f : List UInt8 → Nat → Option (α × Nat)) (enc : α → List UInt8) (ok : α → Prop) : Prop where
  put : ∀ pre x post, ok x → f (pre ++ enc x ++ post) pre.length = some (x, (pre ++ enc x).length)
  take : ∀ l k x k', f l k = some (x, k') → k ≤ l.length → ok x ∧ k' = k + (enc x).length ∧ k' ≤ l.length ∧ l = l.take k ++ enc x ++ l.drop k'
theorem take_drop3 (l : List UInt8) {k j : Nat} {e : List UInt8} (he : e = (l.drop k).take e.length) (hj : j = k + e.length) : l = l.take k ++ e ++ l.drop j := by
  subst hj
  have h1 : l = l.take k ++ l.drop k := (List.take_append_drop k l).symm
  have h2 : l.drop k = (l.drop k).take e.length ++ (l.drop k).drop e.length := (List.take_append_drop _ _).symm
  rw [← he, List.drop_drop] at h2
  rw [List.append_assoc, ← h2]
  exact h1
theorem take_key {l : List UInt8} {i j : Nat} {e : List UInt8} (hj : j = i + e.length) (hi : i ≤ l.length) (hd : l = l.take i ++ e ++ l.drop j) : l.take j = l.take i ++ e := by
  have h : l.take j = (l.take i ++ e ++ l.drop j).take j := congrArg (fun z => z.take j) hd
  have hl : (l.take i ++ e).length = j := by rw [List.length_append, List.length_take]; omega
  rw [h, List.take_append_of_le_length (by omega), List.take_of_length_le (by omega)]
theorem RdOk.num {most : Nat} (hm : most < 18446744073709551616) : RdOk (numS most) varM (fun n => n ≤ most) where
  put := fun pre x post hx => by
    have h : takeV (pre ++ varM x ++ post) (pre.length : Nat) = (x, pre.length + (varM x).length, 0) := by
      refine takeV_ok (by simp) ?_
      rw [List.append_assoc, List.drop_left, scanP_var x 0 0 post (by decide) (by simp; omega) (by omega)]
      simp
    unfold numS
    rw [h]
    simp [hx]
  take := fun l k x k' h hk => by
    obtain ⟨hx, hk'⟩ := numS_le h
    unfold numS at h
    cases hs : scanP (l.drop k) 0 0 with
    | none => rw [takeV_none hk hs] at h; simp at h
    | some z =>
      obtain ⟨v, j⟩ := z
      rw [takeV_ok hk hs] at h
      simp only [true_and] at h
      split at h
      · injection h with h; injection h with h2 h3
        obtain ⟨h4, h5, h6⟩ := scanP_iff.1 hs
        subst h2; subst h5; subst h3
        exact ⟨hx, rfl, hk', take_drop3 l h6 rfl⟩
      · cases h
theorem RdOk.oct {most : Nat} (hm : most ≤ 255) : RdOk (octS most) (fun n => [b8 n]) (fun n => n ≤ most) where
  put := fun pre x post hx => by
    unfold octS
    rw [List.append_assoc, List.getElem?_append_right (Nat.le_refl _), Nat.sub_self]
    simp only [List.cons_append, List.getElem?_cons_zero]
    rw [b8_nat (by omega), if_pos hx]
    simp
  take := fun l k x k' h hk => by
    obtain ⟨hx, hk'⟩ := octS_le h
    unfold octS at h
    split at h
    · rename_i c hc
      split at h
      · injection h with h; injection h with h2 h3
        subst h2; subst h3
        refine ⟨hx, rfl, hk', take_drop3 l ?_ rfl⟩
        obtain ⟨hlt, hget⟩ := List.getElem?_eq_some_iff.1 hc
        rw [List.drop_eq_getElem_cons hlt, hget, b8_of]; rfl
      · cases h
    · cases h
theorem RdOk.map {α β : Type} {f : List UInt8 → Nat → Option (α × Nat)} {enc : α → List UInt8} {ok : α → Prop} {enc' : β → List UInt8} {ok' : β → Prop} (hf : RdOk f enc ok) (g : α → β) (h1 : ∀ x, ok x → ok' (g x) ∧ enc' (g x) = enc x) (h2 : ∀ y, ok' y → ∃ x, ok x ∧ g x = y) : RdOk (fun l k => (f l k).map fun z => (g z.1, z.2)) enc' ok' where
  put := fun pre y post hy => by
    obtain ⟨x, hx, rfl⟩ := h2 y hy
    show (f _ _).map _ = _
    rw [(h1 x hx).2, hf.put pre x post hx]; rfl
  take := fun l k y k' h hk => by
    replace h : (f l k).map (fun z => (g z.1, z.2)) = some (y, k') := h
    rw [Option.map_eq_some_iff] at h
    obtain ⟨⟨x, k1⟩, h3, h4⟩ := h
    injection h4 with h4 h5
    subst h4; subst h5
    obtain ⟨a, b, c, d⟩ := hf.take l k x k1 h3 hk
    rw [(h1 x a).2]
    exact ⟨(h1 x a).1, b, c, d⟩
theorem RdOk.rep {α : Type} {f : List UInt8 → Nat → Option (α × Nat)} {enc : α → List UInt8} {ok : α → Prop} (hf : RdOk f enc ok) (n : Nat) : RdOk (fun l k => E.rep (f l) n k) (fun xs => xs.flatMap enc) (fun xs => xs.length = n ∧ ∀ x ∈ xs, ok x) where
  put := by
    induction n with
    | zero =>
      rintro pre xs post ⟨h, _⟩
      obtain rfl : xs = [] := List.eq_nil_of_length_eq_zero h
      simp [E.rep]
    | succ n ih =>
      rintro pre xs post ⟨h, hx⟩
      obtain ⟨ys, y, rfl⟩ : ∃ ys y, xs = ys ++ [y] := by
        rcases List.eq_nil_or_concat xs with h0 | ⟨ys, y, h0⟩
        · rw [h0] at h; cases h
        · exact ⟨ys, y, by rw [h0, List.concat_eq_append]⟩
      have hy := ih pre ys (enc y ++ post) ⟨by simpa using h, fun x hxx => hx x (by simp [hxx])⟩
      have he : pre ++ (ys ++ [y]).flatMap enc ++ post = pre ++ ys.flatMap enc ++ (enc y ++ post) := by simp
      have hf1 := hf.put (pre ++ ys.flatMap enc) y post (hx y (by simp))
      show E.rep _ (n + 1) _ = _
      rw [E.rep, he, hy]
      simp only [Option.bind_some]
      rw [← List.append_assoc, hf1]
      simp
  take := by
    induction n with
    | zero =>
      intro l k xs k' h hk
      replace h : E.rep (f l) 0 k = some (xs, k') := h
      rw [E.rep] at h
      injection h with h; injection h with h1 h2
      subst h1; subst h2
      exact ⟨⟨rfl, by simp⟩, rfl, hk, by simp⟩
    | succ n ih =>
      intro l k xs k' h hk
      replace h : E.rep (f l) (n + 1) k = some (xs, k') := h
      rw [E.rep, Option.bind_eq_some_iff] at h
      obtain ⟨⟨ys, k1⟩, h1, h2⟩ := h
      rw [Option.map_eq_some_iff] at h2
      obtain ⟨⟨y, k2⟩, h3, h4⟩ := h2
      injection h4 with h4 h5
      subst h4; subst h5
      obtain ⟨⟨a1, a2⟩, b, c, d⟩ := ih l k ys k1 h1 hk
      obtain ⟨a', b', c', d'⟩ := hf.take l k1 y k2 h3 c
      refine ⟨⟨by simp [a1], fun x hx => ?_⟩, by
        have b0 : k1 = k + (ys.flatMap enc).length := b
        show k2 = k + ((ys ++ [y]).flatMap enc).length
        rw [List.flatMap_append, List.flatMap_cons, List.flatMap_nil, List.append_nil, List.length_append]; omega, c', ?_⟩
      · rcases List.mem_append.1 hx with hx | hx
        · exact a2 x hx
        · rw [List.mem_singleton.1 hx]; exact a'
      · have e1 : l.take k1 = l.take k ++ ys.flatMap enc := take_key b hk d
        rw [List.flatMap_append, List.flatMap_cons, List.flatMap_nil, List.append_nil, ← List.append_assoc, ← e1]
        exact d'
theorem RdOk.many {α β : Type} {fh : List UInt8 → Nat → Option (α × Nat)} {eh : α → List UInt8} {oh : α → Prop} {fe : List UInt8 → Nat → Option (β × Nat)} {ee : β → List UInt8} {oe : β → Prop} (hh : RdOk fh eh oh) (he : RdOk fe ee oe) {m : Nat} (hm : m ≤ 255) :
    RdOk (fun l k => (fh l k).bind fun h => (octS m l h.2).bind fun n => (E.rep (fe l) n.1 n.2).map fun x => ((h.1, x.1), x.2)) (fun p : α × List β => eh p.1 ++ [b8 p.2.length] ++ p.2.flatMap ee) (fun p => oh p.1 ∧ p.2.length ≤ m ∧ ∀ x ∈ p.2, oe x) where
  put := by
    rintro pre ⟨h, xs⟩ post ⟨h1, h2, h3⟩
    have a1 := hh.put pre h ([b8 xs.length] ++ xs.flatMap ee ++ post) h1
    have a2 := (RdOk.oct hm).put (pre ++ eh h) xs.length (xs.flatMap ee ++ post) h2
    have a3 := (he.rep xs.length).put (pre ++ eh h ++ [b8 xs.length]) xs post ⟨rfl, h3⟩
    have e1 : pre ++ (eh h ++ [b8 xs.length] ++ xs.flatMap ee) ++ post = pre ++ eh h ++ ([b8 xs.length] ++ xs.flatMap ee ++ post) := by simp
    have e2 : pre ++ eh h ++ ([b8 xs.length] ++ xs.flatMap ee ++ post) = pre ++ eh h ++ [b8 xs.length] ++ (xs.flatMap ee ++ post) := by simp
    have e3 : pre ++ eh h ++ ([b8 xs.length] ++ xs.flatMap ee ++ post) = pre ++ eh h ++ [b8 xs.length] ++ xs.flatMap ee ++ post := by simp
    show (fh _ _).bind _ = _
    rw [e1, a1]
    simp only [Option.bind_some]
    rw [e2, a2]
    simp only [Option.bind_some]
    rw [show pre ++ eh h ++ [b8 xs.length] ++ (xs.flatMap ee ++ post) = pre ++ eh h ++ [b8 xs.length] ++ xs.flatMap ee ++ post by simp]
    have a4 : E.rep (fe (pre ++ eh h ++ [b8 xs.length] ++ xs.flatMap ee ++ post)) xs.length (pre ++ eh h ++ [b8 xs.length]).length = some (xs, (pre ++ eh h ++ [b8 xs.length] ++ xs.flatMap ee).length) := a3
    rw [a4]
    simp
  take := by
    rintro l k ⟨h, xs⟩ k' hl hk
    replace hl : ((fh l k).bind fun h => (octS m l h.2).bind fun n => (E.rep (fe l) n.1 n.2).map fun x => ((h.1, x.1), x.2)) = some ((h, xs), k') := hl
    rw [Option.bind_eq_some_iff] at hl
    obtain ⟨⟨h', k1⟩, h1, hl⟩ := hl
    rw [Option.bind_eq_some_iff] at hl
    obtain ⟨⟨n, k2⟩, h2, hl⟩ := hl
    rw [Option.map_eq_some_iff] at hl
    obtain ⟨⟨ys, k3⟩, h3, h4⟩ := hl
    injection h4 with h4 h5
    injection h4 with h6 h7
    subst h6; subst h7; subst h5
    obtain ⟨a1, b1, c1, d1⟩ := hh.take l k _ k1 h1 hk
    obtain ⟨a2, b2, c2, d2⟩ := (RdOk.oct hm).take l k1 _ k2 h2 c1
    obtain ⟨⟨a3, a4⟩, b3, c3, d3⟩ := (he.rep n).take l k2 _ k3 h3 c2
    subst a3
    have b2' : k2 = k1 + 1 := b2
    have e1 := take_key b1 hk d1
    have e2 := take_key b2 c1 d2
    refine ⟨⟨a1, a2, a4⟩, by simp only [List.length_append, List.length_singleton]; omega, c3, ?_⟩
    rw [← List.append_assoc, ← List.append_assoc, ← e1, ← e2]
    exact d3
theorem RdOk.flag {α : Type} {f : List UInt8 → Nat → Option (α × Nat)} {enc : α → List UInt8} {ok : α → Prop} (hf : RdOk f enc ok) : RdOk (fun l k => (octS 1 l k).bind fun b => (f l b.2).map fun a => ((b.1 == 1, a.1), a.2)) (fun p : Bool × α => [b8 (bitN p.1)] ++ enc p.2) (fun p => ok p.2) where
  put := by
    rintro pre ⟨b, x⟩ post hx
    have a1 := (RdOk.oct (show 1 ≤ 255 by decide)).put pre (bitN b) (enc x ++ post) (bitN_le b)
    have a2 := hf.put (pre ++ [b8 (bitN b)]) x post hx
    show (octS 1 _ _).bind _ = _
    rw [show pre ++ ([b8 (bitN b)] ++ enc x) ++ post = pre ++ [b8 (bitN b)] ++ (enc x ++ post) by simp, a1]
    simp only [Option.bind_some]
    rw [← List.append_assoc, a2]
    cases b <;> simp [bitN]
  take := by
    rintro l k ⟨b, x⟩ k' hl hk
    replace hl : ((octS 1 l k).bind fun b => (f l b.2).map fun a => ((b.1 == 1, a.1), a.2)) = some ((b, x), k') := hl
    rw [Option.bind_eq_some_iff] at hl
    obtain ⟨⟨n, k1⟩, h1, hl⟩ := hl
    rw [Option.map_eq_some_iff] at hl
    obtain ⟨⟨y, k2⟩, h2, h3⟩ := hl
    injection h3 with h3 h4
    injection h3 with h5 h6
    subst h6; subst h4
    obtain ⟨a1, b1, c1, d1⟩ := (RdOk.oct (show 1 ≤ 255 by decide)).take l k _ k1 h1 hk
    obtain ⟨a2, b2, c2, d2⟩ := hf.take l k1 _ k2 h2 c1
    have hn : bitN b = n := by
      rw [← h5]
      have : n = 0 ∨ n = 1 := by omega
      rcases this with rfl | rfl <;> rfl
    have b1' : k1 = k + 1 := b1
    rw [hn]
    refine ⟨a2, by simp only [List.length_append, List.length_singleton]; omega, c2, ?_⟩
    have e1 : l.take k1 = l.take k ++ [b8 n] := take_key b1 hk d1
    rw [← List.append_assoc, ← e1]
    exact d2
/-! ### facts, clauses, rules -/
def atmBV (v : PA) : List UInt8 := varM v.1 ++ [b8 v.2.length] ++ v.2.flatMap termB
def atmOk (v : PA) : Prop := v.1 ≤ 4294967295 ∧ v.2.length ≤ 6 ∧ ∀ t ∈ v.2, t.n ≤ 4294967295
theorem rd_term : RdOk termS termB (fun t => t.n ≤ 4294967295) :=
  (RdOk.num (most := 8589934591) (by decide)).map termOf (fun n hn => by
    refine ⟨by show n / 2 ≤ _; omega, ?_⟩
    show varM (2 * (n / 2) + bitN (n % 2 == 1)) = varM n
    congr 1
    rcases Nat.mod_two_eq_zero_or_one n with h | h
    · rw [h]; show 2 * (n / 2) + 0 = n; omega
    · rw [h]; show 2 * (n / 2) + 1 = n; omega) (fun t ht => ⟨2 * t.n + bitN t.v, by have := bitN_le t.v; omega, by
    obtain ⟨v, n⟩ := t
    unfold termOf
    cases v with
    | false => simp [bitN]
    | true => simp [bitN]; omega⟩)
theorem rd_fct : RdOk fctS (fun p : Nat × List Nat => varM p.1 ++ [b8 p.2.length] ++ p.2.flatMap varM) (fun p => p.1 ≤ 4294967295 ∧ p.2.length ≤ 6 ∧ ∀ x ∈ p.2, x ≤ 4294967295) := (RdOk.num (by decide)).many (RdOk.num (by decide)) (by decide)
theorem rd_atm : RdOk atmS atmBV atmOk := (RdOk.num (by decide)).many rd_term (by decide)
theorem rd_lit : RdOk litS (fun p : Bool × PA => [b8 (bitN p.1)] ++ atmBV p.2) (fun p => atmOk p.2) := rd_atm.flag
def clBV (v : PA × List (Bool × PA)) : List UInt8 := atmBV v.1 ++ [b8 v.2.length] ++ v.2.flatMap fun p => [b8 (bitN p.1)] ++ atmBV p.2
def clOk (v : PA × List (Bool × PA)) : Prop := atmOk v.1 ∧ v.2.length ≤ 8 ∧ ∀ x ∈ v.2, atmOk x.2
theorem rd_cl : RdOk clS clBV clOk := rd_atm.many rd_lit (by decide)
def sayBV (v : PY) : List UInt8 := [b8 (bitN v.1)] ++ ((if v.1 then termB v.2.1 else []) ++ atmBV v.2.2)
def sayOk (v : PY) : Prop := v.2.1.n ≤ 4294967295 ∧ (v.1 = false → v.2.1 = ⟨false, 0⟩) ∧ atmOk v.2.2
theorem rd_say : RdOk sayS sayBV sayOk where
  put := by
    rintro pre ⟨s, w, a⟩ post ⟨h1, h2, h3⟩
    replace h1 : w.n ≤ 4294967295 := h1
    have a1 := (RdOk.oct (show 1 ≤ 255 by decide)).put pre (bitN s) ((if s then termB w else []) ++ atmBV a ++ post) (bitN_le s)
    have e1 : pre ++ sayBV (s, w, a) ++ post = pre ++ [b8 (bitN s)] ++ ((if s then termB w else []) ++ atmBV a ++ post) := by simp [sayBV]
    unfold sayS
    rw [e1, a1]
    simp only [Option.bind_some]
    cases s with
    | true =>
      have a2 := rd_term.put (pre ++ [b8 (bitN true)]) w (atmBV a ++ post) h1
      have a3 := rd_atm.put (pre ++ [b8 (bitN true)] ++ termB w) a post h3
      simp only [if_true]
      rw [show pre ++ [b8 (bitN true)] ++ (termB w ++ atmBV a ++ post) = pre ++ [b8 (bitN true)] ++ termB w ++ (atmBV a ++ post) by simp]
      rw [show whoS (bitN true) = termS from rfl, a2]
      simp only [Option.bind_some]
      rw [← List.append_assoc, a3]
      simp [bitN, sayBV]
    | false =>
      have hw : w = ⟨false, 0⟩ := h2 rfl
      subst hw
      have a3 := rd_atm.put (pre ++ [b8 (bitN false)]) a post h3
      simp only [Bool.false_eq_true, if_false, List.nil_append]
      rw [show whoS (bitN false) = fun l k => some (⟨false, 0⟩, k) from rfl]
      simp only [Option.bind_some]
      rw [← List.append_assoc, a3]
      simp [bitN, sayBV]
  take := by
    rintro l k ⟨s, w, a⟩ k' hl hk
    unfold sayS at hl
    rw [Option.bind_eq_some_iff] at hl
    obtain ⟨⟨b, k1⟩, h1, hl⟩ := hl
    rw [Option.bind_eq_some_iff] at hl
    obtain ⟨⟨w', k2⟩, h2, hl⟩ := hl
    rw [Option.map_eq_some_iff] at hl
    obtain ⟨⟨a', k3⟩, h3, h4⟩ := hl
    injection h4 with h4 h5
    injection h4 with h6 h7
    injection h7 with h7 h8
    subst h5; subst h7; subst h8
    obtain ⟨a1, b1, c1, d1⟩ := (RdOk.oct (show 1 ≤ 255 by decide)).take l k _ k1 h1 hk
    have b1' : k1 = k + 1 := b1
    have e1 : l.take k1 = l.take k ++ [b8 b] := take_key b1 hk d1
    have hb : b = 0 ∨ b = 1 := by omega
    rcases hb with rfl | rfl
    · have hs : s = false := h6.symm
      subst hs
      unfold whoS at h2
      rw [if_neg (show ¬ (0 : Nat) = 1 by decide)] at h2
      injection h2 with h2
      injection h2 with h2 h9
      subst h2; subst h9
      obtain ⟨a3, b3, c3, d3⟩ := rd_atm.take l k1 _ k3 h3 c1
      refine ⟨⟨Nat.zero_le _, fun _ => rfl, a3⟩, ?_, c3, ?_⟩
      · simp only [sayBV, Bool.false_eq_true, if_false, List.nil_append, List.length_append, List.length_singleton]; omega
      · have e2 : sayBV (false, ⟨false, 0⟩, a') = [b8 0] ++ atmBV a' := by simp [sayBV, bitN]
        rw [e2, ← List.append_assoc, ← e1]
        exact d3
    · have hs : s = true := h6.symm
      subst hs
      rw [show whoS 1 = termS from rfl] at h2
      obtain ⟨a2, b2, c2, d2⟩ := rd_term.take l k1 _ k2 h2 c1
      obtain ⟨a3, b3, c3, d3⟩ := rd_atm.take l k2 _ k3 h3 c2
      have e2 := take_key b2 c1 d2
      refine ⟨⟨a2, fun h => Bool.noConfusion h, a3⟩, ?_, c3, ?_⟩
      · simp only [sayBV, if_true, List.length_append, List.length_singleton]; omega
      · have e3 : sayBV (true, w', a') = [b8 1] ++ termB w' ++ atmBV a' := by simp [sayBV, bitN]
        rw [e3, ← List.append_assoc, ← List.append_assoc, ← e1, ← e2]
        exact d3
theorem rd_cd : RdOk cdS (fun p : Bool × PY => [b8 (bitN p.1)] ++ sayBV p.2) (fun p => sayOk p.2) := rd_say.flag
def rlBV (v : PY × List (Bool × PY)) : List UInt8 := sayBV v.1 ++ [b8 v.2.length] ++ v.2.flatMap fun p => [b8 (bitN p.1)] ++ sayBV p.2
def rlOk (v : PY × List (Bool × PY)) : Prop := sayOk v.1 ∧ v.2.length ≤ 8 ∧ ∀ x ∈ v.2, sayOk x.2
theorem rd_rl : RdOk rlS rlBV rlOk := rd_say.many rd_cd (by decide)
theorem clBV_eq (c : Cl) : clB c = clBV (clVal c) := by
  unfold clB clBV clVal litsB atmB atmBV tmsB
  simp only [List.length_map, List.flatMap_map]
  rfl
theorem sayBV_eq (y : Sy) : sayB y = sayBV (syVal y) := by
  unfold sayB sayBV syVal atmB atmBV tmsB
  simp
theorem rlBV_eq (c : Rl) : rlB c = rlBV (rlVal c) := by
  have h : cdB = (fun p : Bool × PY => [b8 (bitN p.1)] ++ sayBV p.2) ∘ cdVal := by
    funext x
    show [b8 (bitN x.no)] ++ sayB x.y = [b8 (bitN x.no)] ++ sayBV (syVal x.y)
    rw [sayBV_eq]
  unfold rlB rlBV rlVal cdsB
  rw [sayBV_eq, h]
  simp only [List.length_map, List.flatMap_map, Function.comp_def]
end Go.Proofs.Ytokggdgagfmacaa.E
