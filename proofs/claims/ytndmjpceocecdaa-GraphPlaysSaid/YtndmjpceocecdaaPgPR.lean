/- GraphPlays, whatever graph and numbers are handed in: it answers true, and what was handed in reads as it did. No conditions. -/
import Derived.Test.YtndmjpceocecdaaPgP
import Derived.Test.YtndmjpceocecdaaPg7
import Derived.Test.YtndmjpceocecdaaRows
namespace Go.Proofs.Ytndmjpceocecdaa
open Go.ChangeShapes Go.WideShapes Go.ChangeAt Go.RowKit E
theorem Try.own : ownKnob Try.prog.godebug = none := by kernel_rfl
theorem Try.laidOut : laidOutB Try.prog = true := by kernel_rfl
set_option maxRecDepth 100000 in
theorem graphPlays_lifted (os : Os) (started : os.Started) (H : Type) (enc : TypeId × Value → H) :
    ReturnsInHanded {} Try.checked os 6 .any (Rows.graphPlaysSpec.pre6 enc Try.prog Try.f6 Rows.graphPlaysRow.domain false) (Rows.graphPlaysSpec.post enc Try.prog Try.f6 false true false false) := by
  refine returnsInHanded_of_change (C := Try.checked) Try.own started (by kernel_rfl) Try.func6
    (ChangeSpec.witness6 (enc := enc) (C := Try.checked) false ⟨#[], #[.int .i64 0, .slice none 0 0, .int .i64 0], []⟩ 8 (by kernel_rfl) (by kernel_rfl) (by kernel_rfl) (by kernel_rfl)) ?_
  intro W base args ds gs before hval0 hW _ _
  refine law_contract (C := Try.checked) Try.laidOut rfl (tb rfl : TabOk Try.prog 4 _).1 rfl (by kernel_rfl) (fun H ds hd => ?_) enc W args ds gs before hW ?_
  · match ds, hd with
    | [_, _, _], _ => rfl
  have hval : ∀ (j : Nat) t v, Try.f6.params[j]? = some t → args[j]? = some v → Value.okWide Try.prog W .any base t v := hval0
  obtain ⟨p, q, hA0, hV, rfl, hfz, hnd⟩ := hW
  have hA : DataW.TrodAll enc Try.prog W 0 (fun _ => true) true Try.f6.params.toList args.toList ds p := hA0
  rw [Try.params6] at hA hval
  obtain ⟨args, rfl⟩ : ∃ l : List Value, args = l.toArray := ⟨args.toList, by simp⟩
  obtain ⟨v0, vs0, d0, ds0, p0, q0, hv0, rfl, rfl, h0, hA1⟩ := trodAll_cons hA
  obtain ⟨v1, vs1, d1, ds1, p1, q1, hv1, rfl, rfl, h1, hA2⟩ := trodAll_cons hA1
  obtain ⟨v2, vs2, d2, ds2, p2, q2, hv2, rfl, rfl, h2, hA3⟩ := trodAll_cons hA2
  obtain ⟨hvn, rfl, rfl⟩ := trodAll_nil hA3
  have hargs : args = [v0, v1, v2] := by rw [show args = _ from hv0, hv1, hv2, hvn]
  subst hargs
  obtain ⟨a, ha, _⟩ := open_cell (R := rInt .i64) (reads_int (tb rfl : TabOk Try.prog 3 _) rfl rfl) (tb rfl) rfl (hval 0 3 v0 rfl rfl) h0
  obtain ⟨b, hb, hb2⟩ := open_cell reads_prs (tb rfl) rfl (hval 1 45 v1 rfl rfl) h1
  obtain ⟨c, hc, _⟩ := open_cell (R := rInt .i64) (reads_int (tb rfl : TabOk Try.prog 3 _) rfl rfl) (tb rfl) rfl (hval 2 3 v2 rfl rfl) h2
  injection ha with ha _
  injection hb with hb _
  injection hc with hc _
  subst ha
  subst hb
  subst hc
  exact graphPlays_t a b.A b.c b.l c _ (has_exact hb2.2.2.1)
theorem graphPlays_holds : Rows.GraphPlaysSaid :=
  OpenClaim.holds_of_wide 6 Try.f6 rfl rfl rfl rfl rfl rfl rfl ⟨rfl, rfl, rfl, rfl, rfl⟩ rfl rfl rfl rfl rfl (by kernel_rfl) Try.func6 (by kernel_rfl)
    (of_decide_eq_true (by kernel_rfl)) (by unfold Func.isWrapper; rw [if_neg (by decide +kernel)]; exact ⟨rfl, rfl⟩)
    (fun os started H enc _ => graphPlays_lifted os started H enc)
end Go.Proofs.Ytndmjpceocecdaa
