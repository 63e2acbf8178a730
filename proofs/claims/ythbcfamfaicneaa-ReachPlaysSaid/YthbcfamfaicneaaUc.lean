/- Which programs may be, plainly: lengths of predicates, variables that are held. -/
import Derived.Test.YthbcfamfaicneaaUa
namespace Go.Proofs.Ythbcfamfaicneaa.E
open Go Go.RowKit
/-- The atoms of a clause: predicate and length. -/
def atsOf (c : Cl) : List (Nat × Nat) := (c.h.p, c.h.l.length) :: c.l.map fun x => (x.a.p, x.a.l.length)
def atsL (l : List Cl) : List (Nat × Nat) := l.flatMap atsOf
def fitB (o : Option Nat) (n : Nat) : Bool := match o with | none => true | some m => decide (m = n)
def stepB : List (Nat × Nat) → List (Nat × Nat) → Bool
  | _, [] => true
  | L, a :: bs => fitB (lookE L a.1) a.2 && stepB (L ++ [a]) bs
theorem stepB_snoc : ∀ (bs : List (Nat × Nat)) (L : List (Nat × Nat)) (a : Nat × Nat), stepB L (bs ++ [a]) = (fitB (lookE (L ++ bs) a.1) a.2 && stepB L bs)
  | [], L, a => by simp [stepB]
  | b :: bs, L, a => by
    simp only [List.cons_append, stepB]
    rw [stepB_snoc bs (L ++ [b]) a, List.append_assoc]
    simp only [List.singleton_append]
    cases fitB (lookE L b.1) b.2 <;> simp
theorem lookE_app {β : Type} (w : Nat) : ∀ (L M : List (Nat × β)), lookE (L ++ M) w = (lookE L w).or (lookE M w)
  | [], M => by simp [lookE]
  | p :: L, M => by
    simp only [List.cons_append, lookE]
    split
    · rfl
    · exact lookE_app w L M
theorem lookE_in {α β : Type} [DecidableEq α] {w : α} {v : β} : ∀ {L : List (α × β)}, lookE L w = some v → (w, v) ∈ L
  | p :: L, h => by
    simp only [lookE] at h
    split at h
    · rename_i hw
      injection h with h
      subst h; subst hw
      exact List.mem_cons_self ..
    · exact List.mem_cons_of_mem _ (lookE_in h)
theorem lookE_no {β : Type} {w : Nat} : ∀ {L : List (Nat × β)}, lookE L w = none → ∀ p ∈ L, p.1 ≠ w
  | [], _, p, hp => by cases hp
  | q :: L, h, p, hp => by
    simp only [lookE] at h
    split at h
    · cases h
    · rename_i hw
      rcases List.mem_cons.1 hp with rfl | hp
      · exact fun e => hw e.symm
      · exact lookE_no h p hp
/-- Each predicate has one length. -/
def Cons (L : List (Nat × Nat)) : Prop := ∀ a ∈ L, ∀ b ∈ L, a.1 = b.1 → a.2 = b.2
def consB (L : List (Nat × Nat)) : Bool := L.all fun a => L.all fun b => !decide (a.1 = b.1) || decide (a.2 = b.2)
theorem consB_iff {L : List (Nat × Nat)} : consB L = true ↔ Cons L := by
  simp only [consB, Cons, List.all_eq_true, Bool.or_eq_true, Bool.not_eq_true', decide_eq_false_iff_not, decide_eq_true_eq]
  constructor
  · intro h a ha b hb e
    rcases h a ha b hb with h | h
    · exact absurd e h
    · exact h
  · intro h a ha b hb
    by_cases e : a.1 = b.1
    · exact .inr (h a ha b hb e)
    · exact .inl e
theorem Cons.mono {L M : List (Nat × Nat)} (h : Cons M) (hs : ∀ a ∈ L, a ∈ M) : Cons L := fun a ha b hb => h a (hs a ha) b (hs b hb)
theorem cons_nil : Cons [] := fun a ha => by cases ha
theorem fit_cons {L : List (Nat × Nat)} (h : Cons L) (a : Nat × Nat) : fitB (lookE L a.1) a.2 = true ↔ Cons (L ++ [a]) := by
  cases hl : lookE L a.1 with
  | none =>
    simp only [fitB, true_iff]
    have hn := lookE_no hl
    intro x hx y hy e
    rcases List.mem_append.1 hx with h1 | h1 <;> rcases List.mem_append.1 hy with h2 | h2
    · exact h x h1 y h2 e
    · rw [List.mem_singleton.1 h2] at e; exact absurd e (hn x h1)
    · rw [List.mem_singleton.1 h1] at e; exact absurd e.symm (hn y h2)
    · rw [List.mem_singleton.1 h1, List.mem_singleton.1 h2]
  | some m =>
    have hm := lookE_in hl
    simp only [fitB, decide_eq_true_eq]
    constructor
    · intro hmn
      refine h.mono fun x hx => ?_
      rcases List.mem_append.1 hx with hx | hx
      · exact hx
      · simp at hx; subst hx; rw [hmn] at hm; exact hm
    · intro hc
      exact hc _ (List.mem_append_left _ hm) a (by simp) rfl
theorem step_cons : ∀ {bs L : List (Nat × Nat)}, Cons L → (stepB L bs = true ↔ Cons (L ++ bs))
  | [], L, h => by simp [stepB, h]
  | a :: bs, L, h => by
    simp only [stepB, Bool.and_eq_true]
    rw [fit_cons h]
    have e : L ++ a :: bs = (L ++ [a]) ++ bs := by simp
    constructor
    · rintro ⟨h1, h2⟩
      rw [e]; exact (step_cons h1).1 h2
    · intro h1
      rw [e] at h1
      have h2 : Cons (L ++ [a]) := h1.mono fun x hx => List.mem_append_left _ hx
      exact ⟨h2, (step_cons h2).2 h1⟩
/-! ### what is held -/
/-- The literals of one kind. -/
def litsOf (no : Bool) (l : List Lt) : List Lt := l.filter fun x => x.no == no
def posV (l : List Lt) : List Nat := (litsOf false l).flatMap fun x => varsOf x.a.l
def heldA (V : List Nat) (l : List Tm) : Bool := (varsOf l).all fun v => decide (v ∈ V)
def heldC (c : Cl) : Bool := heldA (posV c.l) c.h.l && (litsOf true c.l).all fun x => heldA (posV c.l) x.a.l
theorem litsOf_snoc {no : Bool} {l : List Lt} {i : Nat} {x : Lt} (h : l[i]? = some x) : litsOf no (l.take (i + 1)) = if x.no == no then litsOf no (l.take i) ++ [x] else litsOf no (l.take i) := by
  unfold litsOf
  rw [List.take_add_one, h, List.filter_append]
  by_cases hx : (x.no == no) = true <;> simp [hx]
/-! ### what is wrong -/
def wrong1 (L : List (Nat × Nat)) (c : Cl) : Int := if mayC c then (if heldC c then (if consB (L ++ atsOf c) then 0 else 9) else 10) else 8
theorem wrong1_zero {L : List (Nat × Nat)} {c : Cl} : wrong1 L c = 0 ↔ mayC c = true ∧ heldC c = true ∧ Cons (L ++ atsOf c) := by
  unfold wrong1
  rw [← consB_iff]
  cases mayC c <;> cases heldC c <;> cases consB (L ++ atsOf c) <;> simp
def okTo (l : List Cl) (i : Nat) : Prop := ∀ k c, k < i → l[k]? = some c → wrong1 (atsL (l.take k)) c = 0
/-- What is told of a program. -/
def Res (l : List Cl) (n : Nat) (e : Int) : Prop := (400 < l.length ∧ n = 0 ∧ e = 6) ∨ (l.length ≤ 400 ∧ ((∃ c, l[n]? = some c ∧ okTo l n ∧ e = wrong1 (atsL (l.take n)) c ∧ e ≠ 0) ∨ (okTo l l.length ∧ n = 0 ∧ e = 0)))
theorem res_one {l : List Cl} {n n' : Nat} {e e' : Int} (h : Res l n e) (h' : Res l n' e') : n = n' ∧ e = e' := by
  rcases h with ⟨h1, h2, h3⟩ | ⟨h1, h⟩ <;> rcases h' with ⟨g1, g2, g3⟩ | ⟨g1, g⟩
  · exact ⟨h2.trans g2.symm, h3.trans g3.symm⟩
  · omega
  · omega
  rcases h with ⟨c, h2, h3, h4, h5⟩ | ⟨h2, h3, h4⟩ <;> rcases g with ⟨d, g2, g3, g4, g5⟩ | ⟨g2, g3, g4⟩
  · rcases Nat.lt_trichotomy n n' with hl | hl | hl
    · exact absurd (h4.trans (g3 n c hl h2)) h5
    · subst hl
      rw [h2] at g2
      injection g2 with g2
      subst g2
      exact ⟨rfl, h4.trans g4.symm⟩
    · exact absurd (g4.trans (h3 n' d hl g2)) g5
  · exact absurd (h4.trans (g2 n c (List.getElem?_eq_some_iff.1 h2).1 h2)) h5
  · exact absurd (g4.trans (h2 n' d (List.getElem?_eq_some_iff.1 g2).1 g2)) g5
  · exact ⟨h3.trans g3.symm, h4.trans g4.symm⟩
theorem atsL_snoc {l : List Cl} {i : Nat} {c : Cl} (h : l[i]? = some c) : atsL (l.take (i + 1)) = atsL (l.take i) ++ atsOf c := by
  unfold atsL
  rw [List.take_add_one, h, List.flatMap_append]
  simp
theorem okTo_cons {l : List Cl} : ∀ {i : Nat}, okTo l i → i ≤ l.length → Cons (atsL (l.take i))
  | 0, _, _ => cons_nil
  | i + 1, h, hl => by
    have hi : l[i]? = some (l[i]'(by omega)) := List.getElem?_eq_getElem (by omega)
    rw [atsL_snoc hi]
    exact (wrong1_zero.1 (h i _ (Nat.lt_succ_self i) hi)).2.2
theorem okTo_snoc {l : List Cl} {i : Nat} {c : Cl} (h : okTo l i) (hc : l[i]? = some c) (hw : wrong1 (atsL (l.take i)) c = 0) : okTo l (i + 1) := by
  intro k d hk hd
  rcases Nat.lt_or_ge k i with hki | hki
  · exact h k d hki hd
  · obtain rfl : k = i := by omega
    rw [hc] at hd; injection hd with hd; subst hd; exact hw
/-! ### facts -/
structure Fct where
  p : Nat
  A : Option Addr
  c : Nat
  l : List Nat
def Fct.cells (f : Fct) : List Value := [.int .u32 (f.p : Int), .slice f.A f.l.length f.c]
def fa (fs : List Fct) : List (Nat × Nat) := fs.map fun f => (f.p, f.l.length)
def badF (L : List (Nat × Nat)) (fs : List Fct) (k : Nat) (f : Fct) : Prop := 6 < f.l.length ∨ ∃ a ∈ L ++ fa (fs.take k), a.1 = f.p ∧ a.2 ≠ f.l.length
def okF (L : List (Nat × Nat)) (fs : List Fct) (i : Nat) : Prop := ∀ k f, k < i → fs[k]? = some f → ¬ badF L fs k f
def ResA (L : List (Nat × Nat)) (fs : List Fct) (n : Nat) (e : Int) : Prop := (∃ f, fs[n]? = some f ∧ okF L fs n ∧ badF L fs n f ∧ e = 9) ∨ (okF L fs fs.length ∧ n = 0 ∧ e = 0)
theorem resA_one {L : List (Nat × Nat)} {fs : List Fct} {n n' : Nat} {e e' : Int} (h : ResA L fs n e) (h' : ResA L fs n' e') : n = n' ∧ e = e' := by
  rcases h with ⟨c, h2, h3, h4, h5⟩ | ⟨h2, h3, h4⟩ <;> rcases h' with ⟨d, g2, g3, g4, g5⟩ | ⟨g2, g3, g4⟩
  · rcases Nat.lt_trichotomy n n' with hl | hl | hl
    · exact absurd h4 (g3 n c hl h2)
    · exact ⟨hl, h5.trans g5.symm⟩
    · exact absurd g4 (h3 n' d hl g2)
  · exact absurd h4 (g2 n c (List.getElem?_eq_some_iff.1 h2).1 h2)
  · exact absurd g4 (h2 n' d (List.getElem?_eq_some_iff.1 g2).1 g2)
  · exact ⟨h3.trans g3.symm, h4.trans g4.symm⟩
theorem fa_snoc {fs : List Fct} {i : Nat} {f : Fct} (h : fs[i]? = some f) : fa (fs.take (i + 1)) = fa (fs.take i) ++ [(f.p, f.l.length)] := by
  unfold fa
  rw [List.take_add_one, h, List.map_append]
  rfl
theorem okF_cons {L : List (Nat × Nat)} {fs : List Fct} (h0 : Cons L) : ∀ {i : Nat}, okF L fs i → i ≤ fs.length → Cons (L ++ fa (fs.take i))
  | 0, _, _ => by simpa [fa] using h0
  | i + 1, h, hl => by
    have hi : fs[i]? = some (fs[i]'(by omega)) := List.getElem?_eq_getElem (by omega)
    have ih := okF_cons h0 (i := i) (fun k f hk => h k f (by omega)) (by omega)
    have hb := h i _ (Nat.lt_succ_self i) hi
    rw [fa_snoc hi, ← List.append_assoc]
    intro x hx y hy e
    rcases List.mem_append.1 hx with h1 | h1 <;> rcases List.mem_append.1 hy with h2 | h2
    · exact ih x h1 y h2 e
    · rw [List.mem_singleton.1 h2] at e ⊢
      exact Classical.byContradiction fun hne => hb (.inr ⟨x, h1, e, hne⟩)
    · rw [List.mem_singleton.1 h1] at e ⊢
      exact Classical.byContradiction fun hne => hb (.inr ⟨y, h2, e.symm, fun he => hne he.symm⟩)
    · rw [List.mem_singleton.1 h1, List.mem_singleton.1 h2]
/-- What the map says is what all that were seen say. -/
theorem fit_bad {L : List (Nat × Nat)} {fs : List Fct} {i : Nat} {f : Fct} (h : Cons (L ++ fa (fs.take i))) : (fitB (lookE (L ++ fa (fs.take i)) f.p) f.l.length = false ∨ 6 < f.l.length) ↔ badF L fs i f := by
  unfold badF
  cases hl : lookE (L ++ fa (fs.take i)) f.p with
  | none =>
    have hn := lookE_no hl
    constructor
    · rintro (h | h)
      · cases h
      · exact .inl h
    · rintro (h | ⟨a, ha, he, _⟩)
      · exact .inr h
      · exact absurd he (hn a ha)
  | some m =>
    have hm := lookE_in hl
    simp only [fitB, decide_eq_false_iff_not]
    constructor
    · rintro (h | h)
      · exact .inr ⟨_, hm, rfl, h⟩
      · exact .inl h
    · rintro (h6 | ⟨a, ha, he, hne⟩)
      · exact .inr h6
      · refine .inl fun e => hne ?_
        rw [← e]
        exact h a ha _ hm he
theorem okF_snoc {L : List (Nat × Nat)} {fs : List Fct} {i : Nat} {f : Fct} (h : okF L fs i) (hf : fs[i]? = some f) (hb : ¬ badF L fs i f) : okF L fs (i + 1) := by
  intro k d hk hd
  rcases Nat.lt_or_ge k i with hki | hki
  · exact h k d hki hd
  · obtain rfl : k = i := by omega
    rw [hf] at hd; injection hd with hd; subst hd; exact hb
end Go.Proofs.Ythbcfamfaicneaa.E
