/- SymsOrder, whatever names and numbers are handed in: it answers true, and what was handed in reads as it did. No conditions. -/
import Derived.Test.YtoccilnobgoncaaZ5
import Derived.Test.YtoccilnobgoncaaZ0
import Derived.Test.YtoccilnobgoncaaRows
namespace Go.Proofs.Ytoccilnobgoncaa.E
open Go Go.RowKit
theorem reads_u8s : Reads Try.prog 43 (rSl (rInt .u8)) := reads_sl (reads_int (tb rfl : TabOk Try.prog 5 _) rfl rfl) (tb rfl) rfl rfl
theorem nums_flat8 (xs : List Int) : xs.flatMap (rInt .u8).cells = nums .u8 xs := by
  induction xs with
  | nil => rfl
  | cons x xs ih => rw [List.flatMap_cons, ih]; rfl
theorem u8s_src {s : Sl Int} {W : World} (h : (rSl (rInt .u8)).ok s (memOf W)) : has [exact_ W] (srcAt 1 s.A s.l.length (nums .u8 s.l)) := by
  have h1 : srcAt (rInt .u8).sz s.A s.l.length (s.l.flatMap (rInt .u8).cells) (memOf W) := h.2.2.1
  rw [nums_flat8] at h1
  exact has_exact h1
end Go.Proofs.Ytoccilnobgoncaa.E
namespace Go.Proofs.Ytoccilnobgoncaa
open Go.ChangeShapes Go.WideShapes Go.ChangeAt Go.RowKit E
set_option maxRecDepth 100000 in
theorem symsOrder_lifted (os : Os) (started : os.Started) (H : Type) (enc : TypeId × Value → H) :
    ReturnsInHanded {} Try.checked os 9 .any (Rows.symsOrderSpec.pre6 enc Try.prog Try.f9 Rows.symsOrderRow.domain false) (Rows.symsOrderSpec.post enc Try.prog Try.f9 false true false false) := by
  refine returnsInHanded_of_change (C := Try.checked) Try.own started (by kernel_rfl) Try.func9
    (ChangeSpec.witness6 (enc := enc) (C := Try.checked) false ⟨#[], #[.slice none 0 0, .slice none 0 0], []⟩ 8 (by kernel_rfl) (by kernel_rfl) (by kernel_rfl) (by kernel_rfl)) ?_
  intro W base args ds gs before hval0 hW _ _
  refine law_contract (C := Try.checked) Try.laidOut rfl (tb rfl : TabOk Try.prog 4 _).1 rfl (by kernel_rfl) (fun H ds hd => ?_) enc W args ds gs before hW ?_
  · match ds, hd with
    | [_, _], _ => rfl
  have hval : ∀ (j : Nat) t v, Try.f9.params[j]? = some t → args[j]? = some v → Value.okWide Try.prog W .any base t v := hval0
  obtain ⟨p, q, hA0, hV, rfl, hfz, hnd⟩ := hW
  have hA : DataW.TrodAll enc Try.prog W 0 (fun _ => true) true Try.f9.params.toList args.toList ds p := hA0
  rw [Try.params9] at hA hval
  obtain ⟨args, rfl⟩ : ∃ l : List Value, args = l.toArray := ⟨args.toList, by simp⟩
  obtain ⟨v0, vs0, d0, ds0, p0, q0, hv0, rfl, rfl, h0, hA1⟩ := trodAll_cons hA
  obtain ⟨v1, vs1, d1, ds1, p1, q1, hv1, rfl, rfl, h1, hA2⟩ := trodAll_cons hA1
  obtain ⟨hvn, rfl, rfl⟩ := trodAll_nil hA2
  have hargs : args = [v0, v1] := by rw [show args = _ from hv0, hv1, hvn]
  subst hargs
  obtain ⟨a, ha, ha2⟩ := open_cell reads_strs (tb rfl) rfl (hval 0 56 v0 rfl rfl) h0
  obtain ⟨b, hb, hb2⟩ := open_cell reads_u8s (tb rfl) rfl (hval 1 43 v1 rfl rfl) h1
  injection ha with ha _
  injection hb with hb _
  subst ha
  subst hb
  exact order4_t a.A b.A a.c b.c a.l b.l _ (strs_src ha2) (u8s_src hb2) (fun x hx => hb2.2.2.2 x hx)
theorem symsOrder_holds : Rows.SymsOrderSaid :=
  OpenClaim.holds_of_wide 9 Try.f9 rfl rfl rfl rfl rfl rfl rfl ⟨rfl, rfl, rfl, rfl, rfl⟩ rfl rfl rfl rfl rfl (by kernel_rfl) Try.func9 (by kernel_rfl)
    (of_decide_eq_true (by kernel_rfl)) (by unfold Func.isWrapper; rw [if_neg (by decide +kernel)]; exact ⟨rfl, rfl⟩)
    (fun os started H enc _ => symsOrder_lifted os started H enc)
end Go.Proofs.Ytoccilnobgoncaa
