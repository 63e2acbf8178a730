/- SaysChain, whatever depths are handed in: it answers true, and what was handed in reads as it did. No conditions. -/
import Derived.Test.YthbcfamfaicneaaPc7
import Derived.Test.YthbcfamfaicneaaRows
namespace Go.Proofs.Ythbcfamfaicneaa
open Go.ChangeShapes Go.WideShapes Go.ChangeAt Go.RowKit E
theorem Try.own : ownKnob Try.prog.godebug = none := by kernel_rfl
theorem Try.laidOut : laidOutB Try.prog = true := by kernel_rfl
theorem u8s_flat (l : List Nat) : l.flatMap (rNat .u8 255).cells = u8s l := by
  induction l with
  | nil => rfl
  | cons x l ih => simp only [List.flatMap_cons, ih]; rfl
theorem reads_u8s : Reads Try.prog 50 (rSl (rNat .u8 255)) := reads_sl (reads_nat (tb rfl : TabOk Try.prog 5 _) rfl rfl rfl rfl) (tb rfl) rfl rfl
set_option maxRecDepth 100000 in
theorem saysChain_lifted (os : Os) (started : os.Started) (H : Type) (enc : TypeId × Value → H) :
    ReturnsInHanded {} Try.checked os 4 .any (Rows.saysChainSpec.pre6 enc Try.prog Try.f4 Rows.saysChainRow.domain false) (Rows.saysChainSpec.post enc Try.prog Try.f4 false true false false) := by
  refine returnsInHanded_of_change (C := Try.checked) Try.own started (by kernel_rfl) Try.func4
    (ChangeSpec.witness6 (enc := enc) (C := Try.checked) false ⟨#[], #[.slice none 0 0], []⟩ 8 (by kernel_rfl) (by kernel_rfl) (by kernel_rfl) (by kernel_rfl)) ?_
  intro W base args ds gs before hval0 hW _ _
  refine law_contract (C := Try.checked) Try.laidOut rfl (tb rfl : TabOk Try.prog 4 _).1 rfl (by kernel_rfl) (fun H ds hd => ?_) enc W args ds gs before hW ?_
  · match ds, hd with
    | [_], _ => rfl
  have hval : ∀ (j : Nat) t v, Try.f4.params[j]? = some t → args[j]? = some v → Value.okWide Try.prog W .any base t v := hval0
  obtain ⟨p, q, hA0, hV, rfl, hfz, hnd⟩ := hW
  have hA : DataW.TrodAll enc Try.prog W 0 (fun _ => true) true Try.f4.params.toList args.toList ds p := hA0
  rw [Try.params4] at hA hval
  obtain ⟨args, rfl⟩ : ∃ l : List Value, args = l.toArray := ⟨args.toList, by simp⟩
  obtain ⟨v0, vs0, d0, ds0, p0, q0, hv0, rfl, rfl, h0, hA1⟩ := trodAll_cons hA
  obtain ⟨hvn, rfl, rfl⟩ := trodAll_nil hA1
  have hargs : args = [v0] := by rw [show args = _ from hv0, hvn]
  subst hargs
  obtain ⟨a, ha, ha2⟩ := open_cell reads_u8s (tb rfl) rfl (hval 0 50 v0 rfl rfl) h0
  injection ha with ha _
  subst ha
  have h3 := ha2.2.2.1
  rw [u8s_flat] at h3
  exact saysChain_t a.A a.c a.l _ (has_exact h3) ha2.2.2.2
theorem saysChain_holds : Rows.SaysChainSaid :=
  OpenClaim.holds_of_wide 4 Try.f4 rfl rfl rfl rfl rfl rfl rfl ⟨rfl, rfl, rfl, rfl, rfl⟩ rfl rfl rfl rfl rfl (by kernel_rfl) Try.func4 (by kernel_rfl)
    (of_decide_eq_true (by kernel_rfl)) (by unfold Func.isWrapper; rw [if_neg (by decide +kernel)]; exact ⟨rfl, rfl⟩)
    (fun os started H enc _ => saysChain_lifted os started H enc)
end Go.Proofs.Ythbcfamfaicneaa
