/- Terms, atoms, clauses, facts, as they lie in memory; what may be, what is the same. -/
import Derived.Test.YtokggdgagfmacaaSm
import Derived.Test.YtokggdgagfmacaaSe
import Derived.Test.YtokggdgagfmacaaSh
import Derived.Test.YtokggdgagfmacaaSg
namespace Go.Proofs.Ytokggdgagfmacaa.E
open Go Go.RowKit Go.Proofs
theorem has_el {α : Type} {f : α → List Value} {sz : Nat} (hf : ∀ a, (f a).length = sz) (hz : 0 < sz) {Γ : List HP} {b o n : Nat} {l : List α} {i : Nat} {x : α} (h : has Γ (srcAt sz (some ⟨b, o, none⟩) n (l.flatMap f))) (hi : l[i]? = some x) : has Γ (fun m => cellsAt m b (o + i * sz) (f x)) := fun m hm j v hj => by
  obtain ⟨_, h2⟩ := h m hm
  have hjl : j < sz := by rw [← hf x]; exact (List.getElem?_eq_some_iff.1 hj).1
  have hd : (l.flatMap f).drop (i * sz) = f x ++ (l.drop (i + 1)).flatMap f := by
    rw [← flat_drop hf, List.drop_eq_getElem_cons (List.getElem?_eq_some_iff.1 hi).1, List.flatMap_cons]
    rw [show l[i]'(List.getElem?_eq_some_iff.1 hi).1 = x from (List.getElem?_eq_some_iff.1 hi).2]
  have hg : (l.flatMap f)[i * sz + j]? = some v := by
    rw [← List.getElem?_drop, hd, List.getElem?_append_left (by rw [hf]; exact hjl)]
    exact hj
  rcases h2 with h2 | ⟨b', o', e, h2⟩
  · rw [h2] at hg; simp at hg
  · injection e with e
    injection e with e1 e2 _
    subst e1; subst e2
    have := h2 _ _ hg
    rwa [Nat.add_assoc]
theorem has_cell {Γ : List HP} {b o : Nat} {vs : List Value} (h : has Γ (fun m => cellsAt m b o vs)) (j : Nat) {v : Value} (hv : vs[j]? = some v) : has Γ (fun m => cellAt m b (o + j) v) := has_imp h fun _ hm => hm j v hv
theorem src_some0 {sz n : Nat} {A : Option Addr} {l : List Value} {Γ : List HP} (h : has Γ (srcAt sz A n l)) (hl : 0 < l.length) : ∀ m, all Γ m → ∃ b o, A = some ⟨b, o, none⟩ := fun m hm => src_some (h m hm) hl
/-! ### terms -/
structure Tm where
  v : Bool
  n : Nat
  deriving DecidableEq
def tmC (t : Tm) : List Value := [.bool t.v, .int .u32 (t.n : Int)]
theorem tmC_len (t : Tm) : (tmC t).length = 2 := rfl
abbrev tmsC (l : List Tm) : List Value := l.flatMap tmC
theorem tmsC_len (l : List Tm) : (tmsC l).length = l.length * 2 := by
  induction l with
  | nil => rfl
  | cons t l ih => rw [tmsC, List.flatMap_cons, List.length_append]; show 2 + (tmsC l).length = _; rw [ih, List.length_cons]; omega
theorem tm_eq (x y : Tm) : (x.v == y.v && ((x.n : Int) == (y.n : Int) && true)) = decide (x = y) := by
  by_cases h : x = y
  · subst h; simp
  · rw [decide_eq_false h]
    obtain ⟨a, b⟩ := x
    obtain ⟨c, d⟩ := y
    by_cases h1 : a = c
    · subst h1
      have h2 : b ≠ d := fun e => h (by rw [e])
      simp
      omega
    · simp [h1]
/-! ### atoms, literals, clauses, facts -/
structure Atm where
  p : Nat
  A : Option Addr
  c : Nat
  l : List Tm
def Atm.cells (a : Atm) : List Value := [.int .u32 (a.p : Int), .slice a.A a.l.length a.c]
def Atm.ok (a : Atm) (Γ : List HP) : Prop := has Γ (srcAt 2 a.A a.l.length (tmsC a.l)) ∧ a.l.length ≤ a.c
theorem Atm.ok_tl {a : Atm} {Γ : List HP} {H : HP} (h : a.ok Γ) : a.ok (H :: Γ) := ⟨has_tls h.1, h.2⟩
structure Lt where
  no : Bool
  a : Atm
def Lt.cells (x : Lt) : List Value := .bool x.no :: x.a.cells
abbrev ltsC (l : List Lt) : List Value := l.flatMap Lt.cells
theorem ltC_len (x : Lt) : x.cells.length = 3 := rfl
theorem ltsC_len (l : List Lt) : (ltsC l).length = l.length * 3 := by
  induction l with
  | nil => rfl
  | cons t l ih => rw [ltsC, List.flatMap_cons, List.length_append]; show 3 + (ltsC l).length = _; rw [ih, List.length_cons]; omega
structure Cl where
  h : Atm
  A : Option Addr
  c : Nat
  l : List Lt
def Cl.cells (c : Cl) : List Value := [.int .u32 (c.h.p : Int), .slice c.h.A c.h.l.length c.h.c, .slice c.A c.l.length c.c]
def Cl.ok (c : Cl) (Γ : List HP) : Prop := c.h.ok Γ ∧ has Γ (srcAt 3 c.A c.l.length (ltsC c.l)) ∧ c.l.length ≤ c.c ∧ ∀ x ∈ c.l, x.a.ok Γ
theorem Cl.ok_tl {a : Cl} {Γ : List HP} {H : HP} (h : a.ok Γ) : a.ok (H :: Γ) := ⟨Atm.ok_tl h.1, has_tls h.2.1, h.2.2.1, fun x hx => Atm.ok_tl (h.2.2.2 x hx)⟩
/-! ### what may be -/
def badT (t : Tm) : Bool := t.v && decide (16 ≤ t.n)
def mayA (l : List Tm) : Bool := decide (l.length ≤ 6) && !(l.any badT)
def mayC (c : Cl) : Bool := decide (c.l.length ≤ 8) && mayA c.h.l && !(c.l.any fun x => !mayA x.a.l)
def bigC (c : Cl) : Bool := decide (100 < c.l.length) || decide (100 < c.h.l.length) || c.l.any fun x => decide (100 < x.a.l.length)
def sameA (a b : Atm) : Bool := decide (a.p = b.p) && decide (a.l = b.l)
def sameLs : List Lt → List Lt → Bool
  | [], [] => true
  | x :: l, y :: m => (x.no == y.no && sameA x.a y.a) && sameLs l m
  | _, _ => false
def sameC (a b : Cl) : Bool := sameA a.h b.h && sameLs a.l b.l
theorem sameA_self (a : Atm) : sameA a a = true := by simp [sameA]
theorem sameA_comm (a b : Atm) : sameA a b = sameA b a := by
  unfold sameA
  rw [show decide (a.p = b.p) = decide (b.p = a.p) from decide_eq_decide.2 ⟨Eq.symm, Eq.symm⟩, show decide (a.l = b.l) = decide (b.l = a.l) from decide_eq_decide.2 ⟨Eq.symm, Eq.symm⟩]
theorem sameLs_self : ∀ l : List Lt, sameLs l l = true
  | [] => rfl
  | x :: l => by simp [sameLs, sameA_self, sameLs_self l]
theorem sameLs_comm : ∀ l m : List Lt, sameLs l m = sameLs m l
  | [], [] => rfl
  | [], _ :: _ => rfl
  | _ :: _, [] => rfl
  | x :: l, y :: m => by
    simp only [sameLs]
    rw [sameA_comm, sameLs_comm l m]
    cases x.no <;> cases y.no <;> rfl
theorem sameC_self (a : Cl) : sameC a a = true := by simp [sameC, sameA_self, sameLs_self]
theorem sameC_comm (a b : Cl) : sameC a b = sameC b a := by unfold sameC; rw [sameA_comm, sameLs_comm]
theorem sameLs_len : ∀ {l m : List Lt}, sameLs l m = true → l.length = m.length
  | [], [], _ => rfl
  | [], _ :: _, h => by cases h
  | _ :: _, [], h => by cases h
  | x :: l, y :: m, h => by
    simp only [sameLs, Bool.and_eq_true] at h
    rw [List.length_cons, List.length_cons, sameLs_len h.2]
end Go.Proofs.Ytokggdgagfmacaa.E
