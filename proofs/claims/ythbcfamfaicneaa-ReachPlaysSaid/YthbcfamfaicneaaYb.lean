/- Credentials and what they say, plainly: which may be, what they are as clauses. -/
import Derived.Test.YthbcfamfaicneaaYa
namespace Go.Proofs.Ythbcfamfaicneaa.E
open Go Go.RowKit
/-- A credential, as it lies in memory. -/
structure Cr where
  iss : Nat
  ser : Nat
  frm : Nat
  til : Nat
  kind : Nat
  r : Rl
  p : Nat
  args : Int
  to : Nat
  dep : Int
def Cr.cells (c : Cr) : List Value := [.int .u32 (c.iss : Int), .int .u64 (c.ser : Int), .int .u64 (c.frm : Int), .int .u64 (c.til : Int), .int .u8 (c.kind : Int)] ++ c.r.cells ++ [.int .u32 (c.p : Int), .int .i64 c.args, .int .u32 (c.to : Int), .int .i64 c.dep]
def Cr.ok (c : Cr) (Γ : List HP) : Prop := c.r.ok Γ
theorem Cr.ok_tl {c : Cr} {Γ : List HP} {H : HP} (h : c.ok Γ) : c.ok (H :: Γ) := Rl.ok_tl h
/-! ### predicates -/
def predS (p : Nat) (n : Int) (said : Bool) (depth : Int) : Nat × Bool :=
  if 16777216 ≤ p ∨ n < 0 ∨ 6 < n then (0, false) else
    if said = false then (64 * p + 8 * n.toNat, true) else
      if depth < 0 ∨ 3 < depth then (0, false) else (64 * p + 8 * n.toNat + 1 + depth.toNat, true)
/-! ### atoms here, or said -/
def noWho (y : Sy) : Bool := decide (y.w = ⟨false, 0⟩)
def flatB (y : Sy) (depth : Int) : Bool := (predS y.a.p y.a.l.length y.s depth).2 && (if y.s then decide (y.a.l.length < 6) else noWho y)
def flatP (y : Sy) (depth : Int) : Nat × List Tm := ((predS y.a.p y.a.l.length y.s depth).1, if y.s then y.w :: y.a.l else y.a.l)
/-! ### rules here -/
def hereC (r : Rl) : PC := ((flatP r.h 0).1, (flatP r.h 0).2, r.l.map fun x => (x.no, (flatP x.y 3).1, (flatP x.y 3).2))
def hereB (r : Rl) : Bool := !r.h.s && flatB r.h 0 && (r.l.all fun x => flatB x.y 3) && mayP (hereC r)
/-! ### which credentials may be -/
def ruleC (c : Cr) : PC := (c.r.h.a.p, ⟨false, c.iss⟩ :: c.r.h.a.l, c.r.l.map fun x => (false, x.y.a.p, x.y.w :: x.y.a.l))
def plainS (y : Sy) : Bool := !y.s && noWho y
def ruleB (c : Cr) : Bool := plainS c.r.h && decide (c.p = 0) && decide (c.args = 0) && decide (c.to = 0) && decide (c.dep = 0) && (c.r.l.all fun x => !x.no && x.y.s) && mayP (ruleC c) && heldP (ruleC c)
def giveB (c : Cr) : Bool := plainS c.r.h && decide (c.r.h.a.p = 0) && decide (c.r.h.a.l.length = 0) && decide (c.r.l.length = 0) && decide (0 ≤ c.args) && decide (c.args < 6) && decide (0 ≤ c.dep) && decide (c.dep ≤ 3)
def mayCr (c : Cr) : Bool := decide (c.frm < c.til) && decide (c.til ≤ 1099511627776) && (decide (c.kind = 1) && ruleB c || decide (c.kind = 2) && giveB c)
/-! ### credentials as clauses -/
def varsT (n : Nat) : List Tm := (List.range n).map fun i => ⟨true, i⟩
/-- What an issuer says of a depth. -/
def saidB (p : Nat) (l : List Tm) (d : Int) : Bool := (predS p l.length true d).2 && decide (l.length < 6)
def saidP (p : Nat) (who : Tm) (l : List Tm) (d : Int) : Nat × List Tm := ((predS p l.length true d).1, who :: l)
def oneB (c : Cr) (k : Nat) : Bool :=
  if c.kind = 2 then saidB c.p (varsT c.args.toNat) k && saidB c.p (varsT c.args.toNat) (min ((k : Int) - 1) c.dep)
  else saidB c.r.h.a.p c.r.h.a.l k && c.r.l.all fun x => flatB x.y k
def oneC (c : Cr) (k : Nat) : PC :=
  if c.kind = 2 then ((saidP c.p ⟨false, c.iss⟩ (varsT c.args.toNat) k).1, (saidP c.p ⟨false, c.iss⟩ (varsT c.args.toNat) k).2, [(false, (saidP c.p ⟨false, c.to⟩ (varsT c.args.toNat) (min ((k : Int) - 1) c.dep)).1, (saidP c.p ⟨false, c.to⟩ (varsT c.args.toNat) (min ((k : Int) - 1) c.dep)).2)])
  else ((saidP c.r.h.a.p ⟨false, c.iss⟩ c.r.h.a.l k).1, (saidP c.r.h.a.p ⟨false, c.iss⟩ c.r.h.a.l k).2, c.r.l.map fun x => (false, (flatP x.y k).1, (flatP x.y k).2))
def onesC (c : Cr) : List PC := if mayCr c then ((List.range 4).filter (oneB c)).map (oneC c) else []
def credsC (l : List Cr) : List PC := l.flatMap onesC
end Go.Proofs.Ythbcfamfaicneaa.E
