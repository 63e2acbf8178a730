/- GraphEnds, whatever numbers are handed in: it answers true, and what was handed in reads as it did. No conditions. -/
import Derived.Test.YtndmjpceocecdaaPgE
import Derived.Test.YtndmjpceocecdaaRows
namespace Go.Proofs.Ytndmjpceocecdaa
open Go.ChangeShapes Go.WideShapes Go.ChangeAt Go.RowKit E
theorem Try.own : ownKnob Try.prog.godebug = none := by kernel_rfl
theorem Try.laidOut : laidOutB Try.prog = true := by kernel_rfl
set_option maxRecDepth 100000 in
theorem graphEnds_lifted (os : Os) (started : os.Started) (H : Type) (enc : TypeId × Value → H) :
    ReturnsInHanded {} Try.checked os 9 .any (Rows.graphEndsSpec.pre6 enc Try.prog Try.f9 Rows.graphEndsRow.domain false) (Rows.graphEndsSpec.post enc Try.prog Try.f9 false true false false) := by
  refine returnsInHanded_of_change (C := Try.checked) Try.own started (by kernel_rfl) Try.func9
    (ChangeSpec.witness6 (enc := enc) (C := Try.checked) false ⟨#[], #[.int .i8 0, .bool false], []⟩ 8 (by kernel_rfl) (by kernel_rfl) (by kernel_rfl) (by kernel_rfl)) ?_
  intro W base args ds gs before hval0 hW _ _
  refine law_contract (C := Try.checked) Try.laidOut rfl (tb rfl : TabOk Try.prog 4 _).1 rfl (by kernel_rfl) (fun H ds hd => ?_) enc W args ds gs before hW ?_
  · match ds, hd with
    | [_, _], _ => rfl
  have hval : ∀ (j : Nat) t v, Try.f9.params[j]? = some t → args[j]? = some v → Value.okWide Try.prog W .any base t v := hval0
  obtain ⟨p, q, hA0, hV, rfl, hfz, hnd⟩ := hW
  have hA : DataW.TrodAll enc Try.prog W 0 (fun _ => true) true Try.f9.params.toList args.toList ds p := hA0
  rw [Try.params9] at hA hval
  obtain ⟨args, rfl⟩ : ∃ l : List Value, args = l.toArray := ⟨args.toList, by simp⟩
  obtain ⟨v0, vs0, d0, ds0, p0, q0, hv0, rfl, rfl, h0, hA1⟩ := trodAll_cons hA
  obtain ⟨v1, vs1, d1, ds1, p1, q1, hv1, rfl, rfl, h1, hA2⟩ := trodAll_cons hA1
  obtain ⟨hvn, rfl, rfl⟩ := trodAll_nil hA2
  have hargs : args = [v0, v1] := by rw [show args = _ from hv0, hv1, hvn]
  subst hargs
  obtain ⟨a, ha, ha2⟩ := open_cell (R := rInt .i8) (reads_int (tb rfl : TabOk Try.prog 58 _) rfl rfl) (tb rfl) rfl (hval 0 58 v0 rfl rfl) h0
  obtain ⟨b, hb, _⟩ := open_cell (R := rBool) (reads_bool (tb rfl : TabOk Try.prog 4 _) rfl rfl) (tb rfl) rfl (hval 1 4 v1 rfl rfl) h1
  injection ha with ha _
  injection hb with hb _
  subst ha
  subst hb
  exact graphEnds_t a b _ ha2.1 ha2.2
theorem graphEnds_holds : Rows.GraphEndsSaid :=
  OpenClaim.holds_of_wide 9 Try.f9 rfl rfl rfl rfl rfl rfl rfl ⟨rfl, rfl, rfl, rfl, rfl⟩ rfl rfl rfl rfl rfl (by kernel_rfl) Try.func9 (by kernel_rfl)
    (of_decide_eq_true (by kernel_rfl)) (by unfold Func.isWrapper; rw [if_neg (by decide +kernel)]; exact ⟨rfl, rfl⟩)
    (fun os started H enc _ => graphEnds_lifted os started H enc)
end Go.Proofs.Ytndmjpceocecdaa
