/- ShaForks, whatever is handed in: it answers true, and what was handed in reads as it did. The row, and the card. -/
import Derived.Test.YtdookobgkcnncaaDoorH8
import Derived.Test.YtdookobgkcnncaaDoorH9
import Derived.Test.YtdookobgkcnncaaDoorTie
import Derived.Test.YtdookobgkcnncaaDoorCards
import Derived.SevenTiedAt
namespace Go.Proofs.YtdookobgkcnncaaDoor.E
open Go Go.RowKit
theorem reads_bytes : Reads Tryd.prog 30 (rSl rByte) := reads_sl (reads_byte (tb rfl : TabOk Tryd.prog 5 _) rfl rfl) (tb rfl) rfl rfl
end Go.Proofs.YtdookobgkcnncaaDoor.E
namespace Go.Proofs.YtdookobgkcnncaaDoor
open Go.ChangeShapes Go.WideShapes Go.ChangeAt Go.WideMaps Go.WideElems Go.RowKit E
theorem Tryd.own : ownKnob Tryd.prog.godebug = none := by kernel_rfl
theorem Tryd.laidOut : laidOutB Tryd.prog = true := by kernel_rfl
def laidS {H : Type} : List (String × DataW H) := [("bailey/sha.constants", Rows.laid_bailey_sha_constants), ("bailey/sha.begin", Rows.laid_bailey_sha_begin)]
theorem gK : Tryd.prog.globalNamed "bailey/sha.constants" = some 1 := by kernel_rfl
theorem gB : Tryd.prog.globalNamed "bailey/sha.begin" = some 0 := by kernel_rfl
theorem tK : (Tryd.prog.globals[1]?).map (·.type) = some 76 := by kernel_rfl
theorem tB : (Tryd.prog.globals[0]?).map (·.type) = some 52 := by kernel_rfl
set_option maxRecDepth 100000 in
theorem door_met (os : Os) (args : Array Value) : laidMetH Tryd.prog laidS ((World.doorLaid Tryd.prog 400 os).forCall (fun _ _ => 0) ⟨#[], args, []⟩).memory :=
  laidMetH_of_parts3 (fuel := 80) (laidMet_of_run' 80 (by kernel_rfl) (by kernel_rfl)) (by kernel_rfl) (by kernel_rfl)
theorem of_laid {W : World} (h : laidMetH Tryd.prog laidS W) : gBegin [exact_ W] ∧ gConst [exact_ W] := by
  rw [MakeChecks.laidMetH_plain _ _ _ (by kernel_rfl)] at h
  obtain ⟨ps, ⟨g0, t0, cs0, f0, p0, q0, hg0, ht0, hv0, hd0, ⟨g1, t1, cs1, f1, p1, q1, hg1, ht1, hv1, hd1, _, _⟩, _⟩, _, _⟩ := h
  obtain rfl := Option.some.inj (gK.symm.trans hg0)
  obtain rfl := Option.some.inj (gB.symm.trans hg1)
  obtain rfl := Option.some.inj (tK.symm.trans ht0)
  obtain rfl := Option.some.inj (tB.symm.trans ht1)
  exact ⟨cells_var hg1 hv1 (words_read (ws := begin8.l) (tb rfl : TabOk Tryd.prog 52 _).1 (tb rfl : TabOk Tryd.prog 51 _).1 (by kernel_rfl) (by kernel_rfl) rfl hd1),
    cells_var hg0 hv0 (words_read (ws := kC) (tb rfl : TabOk Tryd.prog 76 _).1 (tb rfl : TabOk Tryd.prog 51 _).1 (by kernel_rfl) (by kernel_rfl) rfl hd0)⟩
end Go.Proofs.YtdookobgkcnncaaDoor
