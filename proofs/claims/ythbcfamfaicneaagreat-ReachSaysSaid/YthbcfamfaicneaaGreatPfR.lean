/- ReachSays, whatever credentials, numbers and predicate are handed in: it answers true, and what was handed in reads as it did. No conditions. -/
import Derived.Test.YthbcfamfaicneaaGreatPf8
import Derived.Test.YthbcfamfaicneaaGreatRows
namespace Go.Proofs.YthbcfamfaicneaaGreat
open Go.ChangeShapes Go.WideShapes Go.ChangeAt Go.RowKit E
theorem Tryz.own : ownKnob Tryz.prog.godebug = none := by kernel_rfl
theorem Tryz.laidOut : laidOutB Tryz.prog = true := by kernel_rfl
set_option maxRecDepth 100000 in
theorem reachSays_lifted (os : Os) (started : os.Started) (H : Type) (enc : TypeId × Value → H) :
    ReturnsInHanded {} Tryz.checked os 3 .any (Rows.reachSaysSpec.pre6 enc Tryz.prog Tryz.f3 Rows.reachSaysRow.domain false) (Rows.reachSaysSpec.post enc Tryz.prog Tryz.f3 false true false false) := by
  refine returnsInHanded_of_change (C := Tryz.checked) Tryz.own started (by kernel_rfl) Tryz.func3
    (ChangeSpec.witness6 (enc := enc) (C := Tryz.checked) false ⟨#[], #[.slice none 0 0, .int .u32 0, .int .u32 0, .int .u32 0, .int .u8 0], []⟩ 8 (by kernel_rfl) (by kernel_rfl) (by kernel_rfl) (by kernel_rfl)) ?_
  intro W base args ds gs before hval0 hW _ _
  refine law_contract (C := Tryz.checked) Tryz.laidOut rfl (tb rfl : TabOk Tryz.prog 4 _).1 rfl (by kernel_rfl) (fun H ds hd => ?_) enc W args ds gs before hW ?_
  · match ds, hd with
    | [_, _, _, _, _], _ => rfl
  have hval : ∀ (j : Nat) t v, Tryz.f3.params[j]? = some t → args[j]? = some v → Value.okWide Tryz.prog W .any base t v := hval0
  obtain ⟨p, q, hA0, hV, rfl, hfz, hnd⟩ := hW
  have hA : DataW.TrodAll enc Tryz.prog W 0 (fun _ => true) true Tryz.f3.params.toList args.toList ds p := hA0
  rw [Tryz.params3] at hA hval
  obtain ⟨args, rfl⟩ : ∃ l : List Value, args = l.toArray := ⟨args.toList, by simp⟩
  obtain ⟨v0, vs0, d0, ds0, p0, q0, hv0, rfl, rfl, h0, hA1⟩ := trodAll_cons hA
  obtain ⟨v1, vs1, d1, ds1, p1, q1, hv1, rfl, rfl, h1, hA2⟩ := trodAll_cons hA1
  obtain ⟨v2, vs2, d2, ds2, p2, q2, hv2, rfl, rfl, h2, hA3⟩ := trodAll_cons hA2
  obtain ⟨v3, vs3, d3, ds3, p3, q3, hv3, rfl, rfl, h3, hA4⟩ := trodAll_cons hA3
  obtain ⟨v4, vs4, d4, ds4, p4, q4, hv4, rfl, rfl, h4, hA5⟩ := trodAll_cons hA4
  obtain ⟨hvn, rfl, rfl⟩ := trodAll_nil hA5
  have hargs : args = [v0, v1, v2, v3, v4] := by rw [show args = _ from hv0, hv1, hv2, hv3, hv4, hvn]
  subst hargs
  obtain ⟨a, ha, ha2⟩ := open_cell reads_crs (tb rfl) rfl (hval 0 22 v0 rfl rfl) h0
  obtain ⟨b1, hb1, _⟩ := open_cell (R := rNat .u32 4294967295) (reads_nat (tb rfl : TabOk Tryz.prog 23 _) rfl rfl rfl rfl) (tb rfl) rfl (hval 1 23 v1 rfl rfl) h1
  obtain ⟨b2, hb2, _⟩ := open_cell (R := rNat .u32 4294967295) (reads_nat (tb rfl : TabOk Tryz.prog 23 _) rfl rfl rfl rfl) (tb rfl) rfl (hval 2 23 v2 rfl rfl) h2
  obtain ⟨b3, hb3, _⟩ := open_cell (R := rNat .u32 4294967295) (reads_nat (tb rfl : TabOk Tryz.prog 23 _) rfl rfl rfl rfl) (tb rfl) rfl (hval 3 23 v3 rfl rfl) h3
  obtain ⟨b4, hb4, hb5⟩ := open_cell (R := rNat .u8 255) (reads_nat (tb rfl : TabOk Tryz.prog 5 _) rfl rfl rfl rfl) (tb rfl) rfl (hval 4 5 v4 rfl rfl) h4
  injection ha with ha _
  injection hb1 with hb1 _
  injection hb2 with hb2 _
  injection hb3 with hb3 _
  injection hb4 with hb4 _
  subst ha
  subst hb1
  subst hb2
  subst hb3
  subst hb4
  exact reachSays_t a.A a.c a.l b1 b2 b3 b4 _ (has_exact ha2.2.2.1) hb5
theorem reachSays_holds : Rows.ReachSaysSaid :=
  OpenClaim.holds_of_wide 3 Tryz.f3 rfl rfl rfl rfl rfl rfl rfl ⟨rfl, rfl, rfl, rfl, rfl⟩ rfl rfl rfl rfl rfl (by kernel_rfl) Tryz.func3 (by kernel_rfl)
    (of_decide_eq_true (by kernel_rfl)) (by unfold Func.isWrapper; rw [if_neg (by decide +kernel)]; exact ⟨rfl, rfl⟩)
    (fun os started H enc _ => reachSays_lifted os started H enc)
end Go.Proofs.YthbcfamfaicneaaGreat
