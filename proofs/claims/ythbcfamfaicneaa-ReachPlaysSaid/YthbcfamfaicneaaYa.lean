/- Says, conditions, rules in memory (taken from the Wire texts); clauses without their places. -/
import Derived.Test.YthbcfamfaicneaaUa
import Derived.Test.YthbcfamfaicneaaUc
namespace Go.Proofs.Ythbcfamfaicneaa.E
open Go Go.RowKit Go.Proofs
attribute [local irreducible] TK TL TQ TA Fn PV
/-- What is said: a bool, a term, an atom. -/
structure Sy where
  s : Bool
  w : Tm
  a : Atm
def Sy.cells (y : Sy) : List Value := [.bool y.s, .bool y.w.v, .int .u32 (y.w.n : Int), .int .u32 (y.a.p : Int), .slice y.a.A y.a.l.length y.a.c]
structure Cd where
  no : Bool
  y : Sy
def Cd.cells (x : Cd) : List Value := .bool x.no :: x.y.cells
abbrev cdsC (l : List Cd) : List Value := l.flatMap Cd.cells
theorem cdsC_len (l : List Cd) : (cdsC l).length = l.length * 6 := by
  induction l with
  | nil => rfl
  | cons x l ih => rw [show cdsC (x :: l) = x.cells ++ cdsC l from rfl, List.length_append, ih, List.length_cons, show x.cells.length = 6 from rfl]; omega
structure Rl where
  h : Sy
  A : Option Addr
  c : Nat
  l : List Cd
def Rl.cells (r : Rl) : List Value := r.h.cells ++ [.slice r.A r.l.length r.c]
def Rl.ok (r : Rl) (Γ : List HP) : Prop := r.h.a.ok Γ ∧ has Γ (srcAt 6 r.A r.l.length (cdsC r.l)) ∧ r.l.length ≤ r.c ∧ ∀ x ∈ r.l, x.y.a.ok Γ
theorem Rl.ok_tl {a : Rl} {Γ : List HP} {H : HP} (h : a.ok Γ) : a.ok (H :: Γ) := ⟨Atm.ok_tl h.1, has_tls h.2.1, h.2.2.1, fun x hx => Atm.ok_tl (h.2.2.2 x hx)⟩
def Rl.small (r : Rl) : Prop := r.l.length ≤ 1000000 ∧ r.h.a.l.length ≤ 1000000 ∧ ∀ x ∈ r.l, x.y.a.l.length ≤ 1000000
/-! ### clauses without their places in memory -/
abbrev PL := Bool × Nat × List Tm
abbrev PC := Nat × List Tm × List PL
def pureL (x : Lt) : PL := (x.no, x.a.p, x.a.l)
def pureC (c : Cl) : PC := (c.h.p, c.h.l, c.l.map pureL)
def mayP (d : PC) : Bool := decide (d.2.2.length ≤ 8) && mayA d.2.1 && !(d.2.2.any fun x => !mayA x.2.2)
def posP (L : List PL) : List Nat := (L.filter fun x => x.1 == false).flatMap fun x => varsOf x.2.2
def heldP (d : PC) : Bool := heldA (posP d.2.2) d.2.1 && (d.2.2.filter fun x => x.1 == true).all fun x => heldA (posP d.2.2) x.2.2
def atsP (d : PC) : List (Nat × Nat) := (d.1, d.2.1.length) :: d.2.2.map fun x => (x.2.1, x.2.2.length)
theorem mayC_pure (c : Cl) : mayC c = mayP (pureC c) := by
  unfold mayC mayP pureC
  simp only [List.length_map, List.any_map]
  rfl
theorem posV_pure (l : List Lt) : posV l = posP (l.map pureL) := by
  unfold posV posP litsOf
  rw [List.filter_map, List.flatMap_map]
  rfl
theorem heldC_pure (c : Cl) : heldC c = heldP (pureC c) := by
  unfold heldC heldP pureC
  rw [posV_pure]
  simp only
  rw [List.filter_map, List.all_map]
  rfl
end Go.Proofs.Ythbcfamfaicneaa.E
