/- The three tables that the laws of chapter 3 read: laid. -/
import Derived.Test.YtdookobgkcnncaaDoorI1
import Derived.Test.YtdookobgkcnncaaDoorM4
import Derived.LaidSub
namespace Go.Proofs.YtdookobgkcnncaaDoor
open Go.ChangeShapes Go.WideShapes Go.ChangeAt Go.WideMaps Go.WideElems Go.RowKit E
def laidE {H : Type} : List (String × DataW H) := [("errors.errorType", Rows.laid_errors_errorType), ("bailey/sha.constants", Rows.laid_bailey_sha_constants), ("bailey/sha.begin", Rows.laid_bailey_sha_begin)]
theorem gE : Tryd.prog.globalNamed "errors.errorType" = some 2 := by kernel_rfl
theorem rtE : (Tryd.prog.cutTypes.find? (·.1 == "internal/reflectlite.rtype")).map (·.2) = some 94 := by kernel_rfl
theorem sizeE : Tryd.prog.types.size = 137 := by kernel_rfl
theorem oneRowE : ((List.range 137).filter fun t => Tryd.prog.rowNamed t [101, 114, 114, 111, 114]) = [48] := by kernel_rfl
theorem hndE : typeHandle Tryd.prog 48 = .pointer (some ⟨3, 48, none⟩) := by kernel_rfl
set_option maxRecDepth 100000 in
theorem door_metE (os : Os) (args : Array Value) : laidMetH Tryd.prog laidE ((World.doorLaid Tryd.prog 400 os).forCall (fun _ _ => 0) ⟨#[], args, []⟩).memory :=
  laidMetH_of_parts3 (fuel := 80) (laidMet_of_run' 80 (by kernel_rfl) (by kernel_rfl)) (by kernel_rfl) (by kernel_rfl)
theorem of_laidE {W : World} (h : laidMetH Tryd.prog laidE W) : gBegin [exact_ W] ∧ gConst [exact_ W] ∧ gErr [exact_ W] := by
  obtain ⟨h1, h2⟩ := laidMetH_iff.1 h
  have h3 : laidMetH Tryd.prog laidS W := by
    rw [MakeChecks.laidMetH_plain _ _ _ (by kernel_rfl)]
    exact h1
  refine ⟨(of_laid h3).1, (of_laid h3).2, ?_⟩
  obtain ⟨name, u, ty, e1, e2, e3, e4, e5⟩ := h2 _ (List.mem_singleton.2 rfl)
  have en : name = [101, 114, 114, 111, 114] := (Option.some.inj e1).symm
  subst en
  obtain rfl := Option.some.inj (rtE.symm.trans e2)
  have hm : ty ∈ (List.range 137).filter fun t => Tryd.prog.rowNamed t [101, 114, 114, 111, 114] := List.mem_filter.2 ⟨List.mem_range.2 (by rw [← sizeE]; exact e3), e4⟩
  rw [oneRowE] at hm
  obtain rfl := List.mem_singleton.1 hm
  rw [hndE] at e5
  have := cells_var gE e5 rfl
  exact has_imp this fun m hm => hm 0 _ rfl
end Go.Proofs.YtdookobgkcnncaaDoor
