/- How says, conditions and rules are read. -/
import Derived.Test.YtokggdgagfmacaaXl
namespace Go.Proofs.Ytokggdgagfmacaa.E
open Go Go.RowKit Go.Proofs
theorem reads_bytes : Reads Try.prog 22 (rSl rByte) := reads_sl (reads_byte (tb rfl : TabOk Try.prog 5 _) rfl rfl) (tb rfl) rfl rfl
def syAt (y : Sy) (m : Mem) : Prop := y.w.n ≤ 4294967295 ∧ atmAt y.a m
def rSy : Rd Sy := ⟨5, Sy.cells, syAt⟩
theorem reads_sy : Reads Try.prog 56 rSy :=
  have ht : TabOk Try.prog 56 _ := tb rfl
  ⟨by rw [ht.cellsOf]; rfl, fun _ => rfl, fun a x y hxy h => ⟨h.1, reads_atm.up _ x y hxy h.2⟩, fun enc w fuel cs x h => by
    obtain ⟨v, h1, _⟩ := read_field ht rfl h (R := rBool) 0 _ rfl (reads_bool (tb rfl) rfl rfl)
    obtain ⟨t, h3, h4⟩ := read_field ht rfl h (R := rTm) 1 _ rfl reads_tm
    obtain ⟨a, h5, h6⟩ := read_field ht rfl h (R := rAtm) 2 _ rfl reads_atm
    exact ⟨⟨v, t, a⟩, cut3 h1 h3 h5 (trod_field ht rfl h).1 rfl, h4, h6⟩⟩
def rCd : Rd Cd := ⟨6, Cd.cells, fun x m => syAt x.y m⟩
theorem reads_cd : Reads Try.prog 111 rCd :=
  have ht : TabOk Try.prog 111 _ := tb rfl
  ⟨by rw [ht.cellsOf]; rfl, fun _ => rfl, fun a x y hxy h => reads_sy.up _ x y hxy h, fun enc w fuel cs x h => by
    obtain ⟨v, h1, _⟩ := read_field ht rfl h (R := rBool) 0 _ rfl (reads_bool (tb rfl) rfl rfl)
    obtain ⟨a, h3, h4⟩ := read_field ht rfl h (R := rSy) 1 _ rfl reads_sy
    exact ⟨⟨v, a⟩, cut2 h1 h3 (trod_field ht rfl h).1 rfl, h4⟩⟩
theorem reads_cds : Reads Try.prog 57 (rSl rCd) := reads_sl reads_cd (tb rfl) rfl rfl
def rlAt (c : Rl) (m : Mem) : Prop := syAt c.h m ∧ c.l.length ≤ c.c ∧ srcAt 6 c.A c.l.length (cdsC c.l) m ∧ ∀ x ∈ c.l, syAt x.y m
def rRl : Rd Rl := ⟨6, Rl.cells, rlAt⟩
theorem reads_rl : Reads Try.prog 59 rRl :=
  have ht : TabOk Try.prog 59 _ := tb rfl
  ⟨by rw [ht.cellsOf]; rfl, fun _ => rfl, fun a x y hxy h => ⟨reads_sy.up _ x y hxy h.1, h.2.1, up_src _ _ _ _ x y hxy h.2.2.1, fun z hz => reads_sy.up _ x y hxy (h.2.2.2 z hz)⟩, fun enc w fuel cs x h => by
    obtain ⟨a, h1, h2⟩ := read_field ht rfl h (R := rSy) 0 _ rfl reads_sy
    obtain ⟨s, h3, h4⟩ := read_field ht rfl h (R := rSl rCd) 1 _ rfl reads_cds
    exact ⟨⟨a, s.A, s.c, s.l⟩, cut2 h1 h3 (trod_field ht rfl h).1 rfl, h2, h4.1, h4.2.2.1, h4.2.2.2⟩⟩
theorem rl_exact {c : Rl} {W : World} (h : rlAt c (memOf W)) : c.ok [exact_ W] := ⟨atm_exact h.1.2, has_exact h.2.2.1, h.2.1, fun x hx => atm_exact (h.2.2.2 x hx).2⟩
theorem rl_fit {c : Rl} {m : Mem} (h : rlAt c m) : c.fit := ⟨⟨h.1.1, h.1.2.1, h.1.2.2.2.2⟩, fun x hx => ⟨(h.2.2.2 x hx).1, (h.2.2.2 x hx).2.1, (h.2.2.2 x hx).2.2.2.2⟩⟩
theorem cl_fit {c : Cl} {m : Mem} (h : clAt c m) : c.fit := ⟨⟨h.1.1, h.1.2.2.2⟩, fun x hx => ⟨(h.2.2.2 x hx).1, (h.2.2.2 x hx).2.2.2⟩⟩
end Go.Proofs.Ytokggdgagfmacaa.E
