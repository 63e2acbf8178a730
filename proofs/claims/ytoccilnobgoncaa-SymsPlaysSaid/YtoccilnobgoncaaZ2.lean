/- SymsPlays, whatever names are handed in: it answers true, and what was handed in reads as it did. No conditions. -/
import Derived.Test.YtoccilnobgoncaaZ1
import Derived.Test.YtoccilnobgoncaaRows
namespace Go.Proofs.Ytoccilnobgoncaa.E
open Go Go.RowKit
theorem reads_strs : Reads Try.prog 56 (rSl rStr) := reads_sl (reads_str (tb rfl : TabOk Try.prog 9 _) rfl rfl) (tb rfl) rfl rfl
theorem strs_flat (L : List (List UInt8)) : L.flatMap rStr.cells = strs L := by
  induction L with
  | nil => rfl
  | cons x xs ih => rw [List.flatMap_cons, ih]; rfl
theorem strs_src {s : Sl (List UInt8)} {W : World} (h : (rSl rStr).ok s (memOf W)) : has [exact_ W] (srcAt 1 s.A s.l.length (strs s.l)) := by
  have h1 : srcAt rStr.sz s.A s.l.length (s.l.flatMap rStr.cells) (memOf W) := h.2.2.1
  rw [strs_flat] at h1
  exact has_exact h1
end Go.Proofs.Ytoccilnobgoncaa.E
namespace Go.Proofs.Ytoccilnobgoncaa
open Go.ChangeShapes Go.WideShapes Go.ChangeAt Go.RowKit E
theorem Try.own : ownKnob Try.prog.godebug = none := by kernel_rfl
theorem Try.laidOut : laidOutB Try.prog = true := by kernel_rfl
set_option maxRecDepth 100000 in
theorem symsPlays_lifted (os : Os) (started : os.Started) (H : Type) (enc : TypeId × Value → H) :
    ReturnsInHanded {} Try.checked os 7 .any (Rows.symsPlaysSpec.pre6 enc Try.prog Try.f7 Rows.symsPlaysRow.domain false) (Rows.symsPlaysSpec.post enc Try.prog Try.f7 false true false false) := by
  refine returnsInHanded_of_change (C := Try.checked) Try.own started (by kernel_rfl) Try.func7
    (ChangeSpec.witness6 (enc := enc) (C := Try.checked) false ⟨#[], #[.slice none 0 0, .slice none 0 0, .slice none 0 0], []⟩ 8 (by kernel_rfl) (by kernel_rfl) (by kernel_rfl) (by kernel_rfl)) ?_
  intro W base args ds gs before hval0 hW _ _
  refine law_contract (C := Try.checked) Try.laidOut rfl (tb rfl : TabOk Try.prog 4 _).1 rfl (by kernel_rfl) (fun H ds hd => ?_) enc W args ds gs before hW ?_
  · match ds, hd with
    | [_, _, _], _ => rfl
  have hval : ∀ (j : Nat) t v, Try.f7.params[j]? = some t → args[j]? = some v → Value.okWide Try.prog W .any base t v := hval0
  obtain ⟨p, q, hA0, hV, rfl, hfz, hnd⟩ := hW
  have hA : DataW.TrodAll enc Try.prog W 0 (fun _ => true) true Try.f7.params.toList args.toList ds p := hA0
  rw [Try.params7] at hA hval
  obtain ⟨args, rfl⟩ : ∃ l : List Value, args = l.toArray := ⟨args.toList, by simp⟩
  obtain ⟨v0, vs0, d0, ds0, p0, q0, hv0, rfl, rfl, h0, hA1⟩ := trodAll_cons hA
  obtain ⟨v1, vs1, d1, ds1, p1, q1, hv1, rfl, rfl, h1, hA2⟩ := trodAll_cons hA1
  obtain ⟨v2, vs2, d2, ds2, p2, q2, hv2, rfl, rfl, h2, hA3⟩ := trodAll_cons hA2
  obtain ⟨hvn, rfl, rfl⟩ := trodAll_nil hA3
  have hargs : args = [v0, v1, v2] := by rw [show args = _ from hv0, hv1, hv2, hvn]
  subst hargs
  obtain ⟨a, ha, ha2⟩ := open_cell reads_strs (tb rfl) rfl (hval 0 56 v0 rfl rfl) h0
  obtain ⟨b, hb, hb2⟩ := open_cell reads_strs (tb rfl) rfl (hval 1 56 v1 rfl rfl) h1
  obtain ⟨c, hc, hc2⟩ := open_cell reads_strs (tb rfl) rfl (hval 2 56 v2 rfl rfl) h2
  injection ha with ha _
  injection hb with hb _
  injection hc with hc _
  subst ha
  subst hb
  subst hc
  exact plays4_t a.A b.A c.A a.c b.c c.c a.l b.l c.l _ (strs_src ha2) (strs_src hb2) (strs_src hc2)
theorem symsPlays_holds : Rows.SymsPlaysSaid :=
  OpenClaim.holds_of_wide 7 Try.f7 rfl rfl rfl rfl rfl rfl rfl ⟨rfl, rfl, rfl, rfl, rfl⟩ rfl rfl rfl rfl rfl (by kernel_rfl) Try.func7 (by kernel_rfl)
    (of_decide_eq_true (by kernel_rfl)) (by unfold Func.isWrapper; rw [if_neg (by decide +kernel)]; exact ⟨rfl, rfl⟩)
    (fun os started H enc _ => symsPlays_lifted os started H enc)
end Go.Proofs.Ytoccilnobgoncaa
