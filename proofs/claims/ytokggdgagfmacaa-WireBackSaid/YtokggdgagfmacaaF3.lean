/- Facts, clauses, rules as bytes: plain; says, conditions, rules as they lie in memory. -/
import Derived.Test.YtokggdgagfmacaaXa
import Derived.Test.YtokggdgagfmacaaF0
namespace Go.Proofs.Ytokggdgagfmacaa.E
open Go Go.RowKit Go.Proofs
def bitN (b : Bool) : Nat := if b then 1 else 0
def termB (t : Tm) : List UInt8 := varM (2 * t.n + bitN t.v)
def tmsB (l : List Tm) : List UInt8 := l.flatMap termB
def atmB (a : Atm) : List UInt8 := varM a.p ++ [b8 a.l.length] ++ tmsB a.l
def nmsB (l : List Nat) : List UInt8 := l.flatMap varM
def fctB (f : Fct) : List UInt8 := varM f.p ++ [b8 f.l.length] ++ nmsB f.l
def litB (x : Lt) : List UInt8 := [b8 (bitN x.no)] ++ atmB x.a
def litsB (l : List Lt) : List UInt8 := l.flatMap litB
def clB (c : Cl) : List UInt8 := atmB c.h ++ [b8 c.l.length] ++ litsB c.l
/-- What is said: a bool, a term, an atom. -/
structure Sy where
  s : Bool
  w : Tm
  a : Atm
def Sy.cells (y : Sy) : List Value := [.bool y.s, .bool y.w.v, .int .u32 (y.w.n : Int), .int .u32 (y.a.p : Int), .slice y.a.A y.a.l.length y.a.c]
structure Cd where
  no : Bool
  y : Sy
def Cd.cells (x : Cd) : List Value := .bool x.no :: x.y.cells
abbrev cdsC (l : List Cd) : List Value := l.flatMap Cd.cells
theorem cdsC_len (l : List Cd) : (cdsC l).length = l.length * 6 := by
  induction l with
  | nil => rfl
  | cons x l ih => rw [show cdsC (x :: l) = x.cells ++ cdsC l from rfl, List.length_append, ih, List.length_cons, show x.cells.length = 6 from rfl]; omega
structure Rl where
  h : Sy
  A : Option Addr
  c : Nat
  l : List Cd
def Rl.cells (r : Rl) : List Value := r.h.cells ++ [.slice r.A r.l.length r.c]
def Rl.ok (r : Rl) (Γ : List HP) : Prop := r.h.a.ok Γ ∧ has Γ (srcAt 6 r.A r.l.length (cdsC r.l)) ∧ r.l.length ≤ r.c ∧ ∀ x ∈ r.l, x.y.a.ok Γ
theorem Rl.ok_tl {a : Rl} {Γ : List HP} {H : HP} (h : a.ok Γ) : a.ok (H :: Γ) := ⟨Atm.ok_tl h.1, has_tls h.2.1, h.2.2.1, fun x hx => Atm.ok_tl (h.2.2.2 x hx)⟩
def sayB (y : Sy) : List UInt8 := [b8 (bitN y.s)] ++ (if y.s then termB y.w else []) ++ atmB y.a
def cdB (x : Cd) : List UInt8 := [b8 (bitN x.no)] ++ sayB x.y
def cdsB (l : List Cd) : List UInt8 := l.flatMap cdB
def rlB (r : Rl) : List UInt8 := sayB r.h ++ [b8 r.l.length] ++ cdsB r.l
def Tm.fit (t : Tm) : Prop := t.n ≤ 4294967295
def Atm.fit (a : Atm) : Prop := a.p ≤ 4294967295 ∧ ∀ t ∈ a.l, t.n ≤ 4294967295
def Fct.fit (f : Fct) : Prop := f.p ≤ 4294967295 ∧ ∀ n ∈ f.l, n ≤ 4294967295
def Cl.fit (c : Cl) : Prop := c.h.fit ∧ ∀ x ∈ c.l, x.a.fit
def Sy.fit (y : Sy) : Prop := y.w.fit ∧ y.a.fit
def Rl.fit (r : Rl) : Prop := r.h.fit ∧ ∀ x ∈ r.l, x.y.fit
theorem bitN_le (b : Bool) : bitN b ≤ 1 := by cases b <;> decide
theorem u32_len {n : Nat} (h : n ≤ 4294967295) : (varM n).length ≤ 5 := by
  have : ∀ k n, n < 128 ^ (k + 1) → (varM n).length ≤ k + 1 := by
    intro k
    induction k with
    | zero => intro n hn; rw [varM_lt (by simpa using hn)]; simp
    | succ k ih =>
      intro n hn
      by_cases h : n < 128
      · rw [varM_lt h]; simp
      · rw [varM_ge h, List.length_cons]
        have : n / 128 < 128 ^ (k + 1) := by
          rw [Nat.div_lt_iff_lt_mul (by decide), ← Nat.pow_succ]; exact hn
        have := ih _ this
        omega
  exact this 4 n (by omega)
theorem u33_len {n : Nat} (h : n ≤ 8589934591) : (varM n).length ≤ 5 := by
  have : ∀ k n, n < 128 ^ (k + 1) → (varM n).length ≤ k + 1 := by
    intro k
    induction k with
    | zero => intro n hn; rw [varM_lt (by simpa using hn)]; simp
    | succ k ih =>
      intro n hn
      by_cases h : n < 128
      · rw [varM_lt h]; simp
      · rw [varM_ge h, List.length_cons]
        have : n / 128 < 128 ^ (k + 1) := by
          rw [Nat.div_lt_iff_lt_mul (by decide), ← Nat.pow_succ]; exact hn
        have := ih _ this
        omega
  exact this 4 n (by omega)
theorem termB_len {t : Tm} (h : t.n ≤ 4294967295) : (termB t).length ≤ 5 := u33_len (by have := bitN_le t.v; omega)
theorem flatB_len {α : Type} {f : α → List UInt8} {k : Nat} : ∀ (l : List α), (∀ x ∈ l, (f x).length ≤ k) → (l.flatMap f).length ≤ l.length * k
  | [], _ => by simp
  | x :: l, h => by
    rw [List.flatMap_cons, List.length_append, List.length_cons, Nat.succ_mul]
    have h1 := h x (by simp)
    have h2 := flatB_len l fun y hy => h y (List.mem_cons_of_mem _ hy)
    omega
theorem flatB_snoc {α : Type} {f : α → List UInt8} {l : List α} {i : Nat} {x : α} (h : l[i]? = some x) : (l.take (i + 1)).flatMap f = (l.take i).flatMap f ++ f x := by
  rw [List.take_add_one, h, List.flatMap_append]; simp
theorem flatB_take {α : Type} {f : α → List UInt8} {k : Nat} (l : List α) (i : Nat) (h : ∀ x ∈ l, (f x).length ≤ k) : ((l.take i).flatMap f).length ≤ l.length * k :=
  Nat.le_trans (flatB_len _ fun x hx => h x (List.mem_of_mem_take hx)) (Nat.mul_le_mul_right _ (by rw [List.length_take]; omega))
theorem atmB_len {a : Atm} (h : a.fit) : (atmB a).length ≤ 6 + a.l.length * 5 := by
  have h1 := u32_len h.1
  have h2 : (tmsB a.l).length ≤ a.l.length * 5 := flatB_len _ fun t ht => termB_len (h.2 t ht)
  simp only [atmB, List.length_append, List.length_singleton]; omega
theorem fctB_len {f : Fct} (h : f.fit) : (fctB f).length ≤ 6 + f.l.length * 5 := by
  have h1 := u32_len h.1
  have h2 : (nmsB f.l).length ≤ f.l.length * 5 := flatB_len _ fun t ht => u32_len (h.2 t ht)
  simp only [fctB, List.length_append, List.length_singleton]; omega
theorem litB_len {x : Lt} {k : Nat} (h : x.a.fit) (hk : x.a.l.length ≤ k) : (litB x).length ≤ 7 + k * 5 := by
  have h1 := atmB_len h
  have : x.a.l.length * 5 ≤ k * 5 := Nat.mul_le_mul_right _ hk
  simp only [litB, List.length_append, List.length_singleton]; omega
theorem sayB_len {y : Sy} (h : y.fit) : (sayB y).length ≤ 12 + y.a.l.length * 5 := by
  have h1 := atmB_len h.2
  have h2 := termB_len h.1
  simp only [sayB, List.length_append, List.length_singleton]
  split <;> simp <;> omega
theorem cdB_len {x : Cd} {k : Nat} (h : x.y.fit) (hk : x.y.a.l.length ≤ k) : (cdB x).length ≤ 13 + k * 5 := by
  have h1 := sayB_len h
  have : x.y.a.l.length * 5 ≤ k * 5 := Nat.mul_le_mul_right _ hk
  simp only [cdB, List.length_append, List.length_singleton]; omega
end Go.Proofs.Ytokggdgagfmacaa.E
