/- GraphMore, whatever graph and numbers are handed in: it answers true, and what was handed in reads as it did. No conditions. -/
import Derived.Test.YtndmjpceocecdaaPgM
import Derived.Test.YtndmjpceocecdaaPg7
import Derived.Test.YtndmjpceocecdaaRows
namespace Go.Proofs.Ytndmjpceocecdaa
open Go.ChangeShapes Go.WideShapes Go.ChangeAt Go.RowKit E
theorem Try.own : ownKnob Try.prog.godebug = none := by kernel_rfl
theorem Try.laidOut : laidOutB Try.prog = true := by kernel_rfl
set_option maxRecDepth 100000 in
theorem graphMore_lifted (os : Os) (started : os.Started) (H : Type) (enc : TypeId × Value → H) :
    ReturnsInHanded {} Try.checked os 10 .any (Rows.graphMoreSpec.pre6 enc Try.prog Try.f10 Rows.graphMoreRow.domain false) (Rows.graphMoreSpec.post enc Try.prog Try.f10 false true false false) := by
  refine returnsInHanded_of_change (C := Try.checked) Try.own started (by kernel_rfl) Try.func10
    (ChangeSpec.witness6 (enc := enc) (C := Try.checked) false ⟨#[], #[.int .i64 0, .slice none 0 0, .int .u8 0, .int .u8 0], []⟩ 8 (by kernel_rfl) (by kernel_rfl) (by kernel_rfl) (by kernel_rfl)) ?_
  intro W base args ds gs before hval0 hW _ _
  refine law_contract (C := Try.checked) Try.laidOut rfl (tb rfl : TabOk Try.prog 4 _).1 rfl (by kernel_rfl) (fun H ds hd => ?_) enc W args ds gs before hW ?_
  · match ds, hd with
    | [_, _, _, _], _ => rfl
  have hval : ∀ (j : Nat) t v, Try.f10.params[j]? = some t → args[j]? = some v → Value.okWide Try.prog W .any base t v := hval0
  obtain ⟨p, q, hA0, hV, rfl, hfz, hnd⟩ := hW
  have hA : DataW.TrodAll enc Try.prog W 0 (fun _ => true) true Try.f10.params.toList args.toList ds p := hA0
  rw [Try.params10] at hA hval
  obtain ⟨args, rfl⟩ : ∃ l : List Value, args = l.toArray := ⟨args.toList, by simp⟩
  obtain ⟨v0, vs0, d0, ds0, p0, q0, hv0, rfl, rfl, h0, hA1⟩ := trodAll_cons hA
  obtain ⟨v1, vs1, d1, ds1, p1, q1, hv1, rfl, rfl, h1, hA2⟩ := trodAll_cons hA1
  obtain ⟨v2, vs2, d2, ds2, p2, q2, hv2, rfl, rfl, h2, hA3⟩ := trodAll_cons hA2
  obtain ⟨v3, vs3, d3, ds3, p3, q3, hv3, rfl, rfl, h3, hA4⟩ := trodAll_cons hA3
  obtain ⟨hvn, rfl, rfl⟩ := trodAll_nil hA4
  have hargs : args = [v0, v1, v2, v3] := by rw [show args = _ from hv0, hv1, hv2, hv3, hvn]
  subst hargs
  obtain ⟨a, ha, _⟩ := open_cell (R := rInt .i64) (reads_int (tb rfl : TabOk Try.prog 3 _) rfl rfl) (tb rfl) rfl (hval 0 3 v0 rfl rfl) h0
  obtain ⟨b, hb, hb2⟩ := open_cell reads_prs (tb rfl) rfl (hval 1 45 v1 rfl rfl) h1
  obtain ⟨c, hc, hc2⟩ := open_cell (R := rNat .u8 255) (reads_nat (tb rfl : TabOk Try.prog 5 _) rfl rfl rfl rfl) (tb rfl) rfl (hval 2 5 v2 rfl rfl) h2
  obtain ⟨d, hd, hd2⟩ := open_cell (R := rNat .u8 255) (reads_nat (tb rfl : TabOk Try.prog 5 _) rfl rfl rfl rfl) (tb rfl) rfl (hval 3 5 v3 rfl rfl) h3
  injection ha with ha _
  injection hb with hb _
  injection hc with hc _
  injection hd with hd _
  subst ha
  subst hb
  subst hc
  subst hd
  exact graphMore_t a b.A b.c b.l c d _ (has_exact hb2.2.2.1) hc2 hd2
theorem graphMore_holds : Rows.GraphMoreSaid :=
  OpenClaim.holds_of_wide 10 Try.f10 rfl rfl rfl rfl rfl rfl rfl ⟨rfl, rfl, rfl, rfl, rfl⟩ rfl rfl rfl rfl rfl (by kernel_rfl) Try.func10 (by kernel_rfl)
    (of_decide_eq_true (by kernel_rfl)) (by unfold Func.isWrapper; rw [if_neg (by decide +kernel)]; exact ⟨rfl, rfl⟩)
    (fun os started H enc _ => graphMore_lifted os started H enc)
end Go.Proofs.Ytndmjpceocecdaa
