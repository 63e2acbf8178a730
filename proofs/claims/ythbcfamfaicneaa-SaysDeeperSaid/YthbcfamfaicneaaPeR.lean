/- SaysDeeper, whatever credentials and place are handed in: it answers true, and what was handed in reads as it did. No conditions. -/
import Derived.Test.YthbcfamfaicneaaPe7
import Derived.Test.YthbcfamfaicneaaRows
namespace Go.Proofs.Ythbcfamfaicneaa
open Go.ChangeShapes Go.WideShapes Go.ChangeAt Go.RowKit E
theorem Try.own : ownKnob Try.prog.godebug = none := by kernel_rfl
theorem Try.laidOut : laidOutB Try.prog = true := by kernel_rfl
set_option maxRecDepth 100000 in
theorem saysDeeper_lifted (os : Os) (started : os.Started) (H : Type) (enc : TypeId × Value → H) :
    ReturnsInHanded {} Try.checked os 3 .any (Rows.saysDeeperSpec.pre6 enc Try.prog Try.f3 Rows.saysDeeperRow.domain false) (Rows.saysDeeperSpec.post enc Try.prog Try.f3 false true false false) := by
  refine returnsInHanded_of_change (C := Try.checked) Try.own started (by kernel_rfl) Try.func3
    (ChangeSpec.witness6 (enc := enc) (C := Try.checked) false ⟨#[], #[.slice none 0 0, .int .u8 0], []⟩ 8 (by kernel_rfl) (by kernel_rfl) (by kernel_rfl) (by kernel_rfl)) ?_
  intro W base args ds gs before hval0 hW _ _
  refine law_contract (C := Try.checked) Try.laidOut rfl (tb rfl : TabOk Try.prog 4 _).1 rfl (by kernel_rfl) (fun H ds hd => ?_) enc W args ds gs before hW ?_
  · match ds, hd with
    | [_, _], _ => rfl
  have hval : ∀ (j : Nat) t v, Try.f3.params[j]? = some t → args[j]? = some v → Value.okWide Try.prog W .any base t v := hval0
  obtain ⟨p, q, hA0, hV, rfl, hfz, hnd⟩ := hW
  have hA : DataW.TrodAll enc Try.prog W 0 (fun _ => true) true Try.f3.params.toList args.toList ds p := hA0
  rw [Try.params3] at hA hval
  obtain ⟨args, rfl⟩ : ∃ l : List Value, args = l.toArray := ⟨args.toList, by simp⟩
  obtain ⟨v0, vs0, d0, ds0, p0, q0, hv0, rfl, rfl, h0, hA1⟩ := trodAll_cons hA
  obtain ⟨v1, vs1, d1, ds1, p1, q1, hv1, rfl, rfl, h1, hA2⟩ := trodAll_cons hA1
  obtain ⟨hvn, rfl, rfl⟩ := trodAll_nil hA2
  have hargs : args = [v0, v1] := by rw [show args = _ from hv0, hv1, hvn]
  subst hargs
  obtain ⟨a, ha, ha2⟩ := open_cell reads_crs (tb rfl) rfl (hval 0 22 v0 rfl rfl) h0
  obtain ⟨b, hb, hb2⟩ := open_cell (R := rNat .u8 255) (reads_nat (tb rfl : TabOk Try.prog 5 _) rfl rfl rfl rfl) (tb rfl) rfl (hval 1 5 v1 rfl rfl) h1
  injection ha with ha _
  injection hb with hb _
  subst ha
  subst hb
  exact saysDeeper_t a.A a.c a.l b _ (has_exact ha2.2.2.1) (fun x hx => cr_exact (ha2.2.2.2 x hx)) hb2
theorem saysDeeper_holds : Rows.SaysDeeperSaid :=
  OpenClaim.holds_of_wide 3 Try.f3 rfl rfl rfl rfl rfl rfl rfl ⟨rfl, rfl, rfl, rfl, rfl⟩ rfl rfl rfl rfl rfl (by kernel_rfl) Try.func3 (by kernel_rfl)
    (of_decide_eq_true (by kernel_rfl)) (by unfold Func.isWrapper; rw [if_neg (by decide +kernel)]; exact ⟨rfl, rfl⟩)
    (fun os started H enc _ => saysDeeper_lifted os started H enc)
end Go.Proofs.Ythbcfamfaicneaa
