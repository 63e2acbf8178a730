/- What is handed in, read: terms, atoms, clauses, facts. -/
import Derived.Test.YtndmjpceocecdaaUo
namespace Go.Proofs.Ytndmjpceocecdaa.E
open Go Go.RowKit Go.Proofs
/-! ### how they are read -/
def rU32 : Rd Nat := rNat .u32 4294967295
theorem reads_u32 : Reads Try.prog 30 rU32 := reads_nat (tb rfl : TabOk Try.prog 30 _) rfl rfl rfl rfl
def rTm : Rd Tm := ⟨2, tmC, fun t _ => t.n ≤ 4294967295⟩
theorem reads_tm : Reads Try.prog 72 rTm :=
  have ht : TabOk Try.prog 72 _ := tb rfl
  ⟨by rw [ht.cellsOf]; rfl, fun _ => rfl, fun _ _ _ _ h => h, fun enc w fuel cs x h => by
    obtain ⟨v, h1, _⟩ := read_field ht rfl h (R := rBool) 0 _ rfl (reads_bool (tb rfl) rfl rfl)
    obtain ⟨n, h3, h4⟩ := read_field ht rfl h (R := rU32) 1 _ rfl reads_u32
    exact ⟨⟨v, n⟩, cut2 h1 h3 (trod_field ht rfl h).1 rfl, h4⟩⟩
theorem reads_tms : Reads Try.prog 31 (rSl rTm) := reads_sl reads_tm (tb rfl) rfl rfl
def atmAt (a : Atm) (m : Mem) : Prop := a.p ≤ 4294967295 ∧ a.l.length ≤ a.c ∧ srcAt 2 a.A a.l.length (tmsC a.l) m ∧ ∀ t ∈ a.l, t.n ≤ 4294967295
def rAtm : Rd Atm := ⟨2, Atm.cells, atmAt⟩
theorem reads_atm : Reads Try.prog 33 rAtm :=
  have ht : TabOk Try.prog 33 _ := tb rfl
  ⟨by rw [ht.cellsOf]; rfl, fun _ => rfl, fun a x y hxy h => ⟨h.1, h.2.1, up_src _ _ _ _ x y hxy h.2.2.1, h.2.2.2⟩, fun enc w fuel cs x h => by
    obtain ⟨p, h1, h2⟩ := read_field ht rfl h (R := rU32) 0 _ rfl reads_u32
    obtain ⟨s, h3, h4⟩ := read_field ht rfl h (R := rSl rTm) 1 _ rfl reads_tms
    exact ⟨⟨p, s.A, s.c, s.l⟩, cut2 h1 h3 (trod_field ht rfl h).1 rfl, h2, h4.1, h4.2.2.1, h4.2.2.2⟩⟩
def rLt : Rd Lt := ⟨3, Lt.cells, fun x m => atmAt x.a m⟩
theorem reads_lt : Reads Try.prog 38 rLt :=
  have ht : TabOk Try.prog 38 _ := tb rfl
  ⟨by rw [ht.cellsOf]; rfl, fun _ => rfl, fun a x y hxy h => reads_atm.up _ x y hxy h, fun enc w fuel cs x h => by
    obtain ⟨v, h1, _⟩ := read_field ht rfl h (R := rBool) 0 _ rfl (reads_bool (tb rfl) rfl rfl)
    obtain ⟨a, h3, h4⟩ := read_field ht rfl h (R := rAtm) 1 _ rfl reads_atm
    exact ⟨⟨v, a⟩, cut2 h1 h3 (trod_field ht rfl h).1 rfl, h4⟩⟩
theorem reads_lts : Reads Try.prog 34 (rSl rLt) := reads_sl reads_lt (tb rfl) rfl rfl
def clAt (c : Cl) (m : Mem) : Prop := atmAt c.h m ∧ c.l.length ≤ c.c ∧ srcAt 3 c.A c.l.length (ltsC c.l) m ∧ ∀ x ∈ c.l, atmAt x.a m
def rCl : Rd Cl := ⟨3, Cl.cells, clAt⟩
theorem reads_cl : Reads Try.prog 36 rCl :=
  have ht : TabOk Try.prog 36 _ := tb rfl
  ⟨by rw [ht.cellsOf]; rfl, fun _ => rfl, fun a x y hxy h => ⟨reads_atm.up _ x y hxy h.1, h.2.1, up_src _ _ _ _ x y hxy h.2.2.1, fun z hz => reads_atm.up _ x y hxy (h.2.2.2 z hz)⟩, fun enc w fuel cs x h => by
    obtain ⟨a, h1, h2⟩ := read_field ht rfl h (R := rAtm) 0 _ rfl reads_atm
    obtain ⟨s, h3, h4⟩ := read_field ht rfl h (R := rSl rLt) 1 _ rfl reads_lts
    exact ⟨⟨a, s.A, s.c, s.l⟩, cut2 h1 h3 (trod_field ht rfl h).1 rfl, h2, h4.1, h4.2.2.1, h4.2.2.2⟩⟩
theorem atm_exact {a : Atm} {W : World} (h : atmAt a (memOf W)) : a.ok [exact_ W] := ⟨has_exact h.2.2.1, h.2.1⟩
theorem cl_exact {c : Cl} {W : World} (h : clAt c (memOf W)) : c.ok [exact_ W] := ⟨atm_exact h.1, has_exact h.2.2.1, h.2.1, fun x hx => atm_exact (h.2.2.2 x hx)⟩
/-! ### how facts are read -/
theorem u32s_flat (l : List Nat) : l.flatMap rU32.cells = u32s l := by
  induction l with
  | nil => rfl
  | cons x l ih => rw [List.flatMap_cons, ih]; rfl
def fctAt (f : Fct) (m : Mem) : Prop := f.p ≤ 4294967295 ∧ f.l.length ≤ f.c ∧ srcAt 1 f.A f.l.length (u32s f.l) m ∧ ∀ n ∈ f.l, n ≤ 4294967295
def rFct : Rd Fct := ⟨2, Fct.cells, fctAt⟩
theorem reads_u32s : Reads Try.prog 41 (rSl rU32) := reads_sl reads_u32 (tb rfl) rfl rfl
theorem reads_fct : Reads Try.prog 43 rFct :=
  have ht : TabOk Try.prog 43 _ := tb rfl
  ⟨by rw [ht.cellsOf]; rfl, fun _ => rfl, fun a x y hxy h => ⟨h.1, h.2.1, up_src _ _ _ _ x y hxy h.2.2.1, h.2.2.2⟩, fun enc w fuel cs x h => by
    obtain ⟨p, h1, h2⟩ := read_field ht rfl h (R := rU32) 0 _ rfl reads_u32
    obtain ⟨s, h3, h4⟩ := read_field ht rfl h (R := rSl rU32) 1 _ rfl reads_u32s
    exact ⟨⟨p, s.A, s.c, s.l⟩, cut2 h1 h3 (trod_field ht rfl h).1 rfl, h2, h4.1, (by have := h4.2.2.1; rwa [u32s_flat] at this), h4.2.2.2⟩⟩
theorem reads_cls : Reads Try.prog 22 (rSl rCl) := reads_sl reads_cl (tb rfl) rfl rfl
theorem reads_fcts : Reads Try.prog 23 (rSl rFct) := reads_sl reads_fct (tb rfl) rfl rfl
theorem cls_exact {s : Sl Cl} {W : World} (h : (rSl rCl).ok s (memOf W)) : clsAt s.A s.l [exact_ W] := ⟨has_exact h.2.2.1, fun x hx => cl_exact (h.2.2.2 x hx)⟩
theorem fcts_exact {s : Sl Fct} {W : World} (h : (rSl rFct).ok s (memOf W)) : has [exact_ W] (srcAt 2 s.A s.l.length (fcsC s.l)) := has_exact h.2.2.1
end Go.Proofs.Ytndmjpceocecdaa.E
