/- SafeNames, whatever clauses, facts and numbers are handed in: it answers true, and what was handed in reads as it did. No conditions. -/
import Derived.Test.YtndmjpceocecdaaUx
import Derived.Test.YtndmjpceocecdaaUq
import Derived.Test.YtndmjpceocecdaaRows
namespace Go.Proofs.Ytndmjpceocecdaa.E
open Go Go.RowKit
theorem ats_bound {s : Sl Cl} {W : World} (h : (rSl rCl).ok s (memOf W)) : ∀ a ∈ atsL s.l, a.1 < 4294967296 := fun a ha => by
  obtain ⟨c, hc, hac⟩ := atsL_mem.1 ha
  have hco : clAt c (memOf W) := h.2.2.2 c hc
  rcases List.mem_cons.1 hac with rfl | hac
  · exact Nat.lt_succ_of_le hco.1.1
  · obtain ⟨x, hx, rfl⟩ := List.mem_map.1 hac
    exact Nat.lt_succ_of_le (hco.2.2.2 x hx).1
theorem fct_bound {s : Sl Fct} {W : World} (h : (rSl rFct).ok s (memOf W)) : ∀ f ∈ s.l, f.p < 4294967296 := fun f hf => Nat.lt_succ_of_le (show fctAt f (memOf W) from h.2.2.2 f hf).1
end Go.Proofs.Ytndmjpceocecdaa.E
namespace Go.Proofs.Ytndmjpceocecdaa
open Go.ChangeShapes Go.WideShapes Go.ChangeAt Go.RowKit E
theorem Try.own : ownKnob Try.prog.godebug = none := by kernel_rfl
theorem Try.laidOut : laidOutB Try.prog = true := by kernel_rfl
set_option maxRecDepth 100000 in
theorem safeNames_lifted (os : Os) (started : os.Started) (H : Type) (enc : TypeId × Value → H) :
    ReturnsInHanded {} Try.checked os 5 .any (Rows.safeNamesSpec.pre6 enc Try.prog Try.f5 Rows.safeNamesRow.domain false) (Rows.safeNamesSpec.post enc Try.prog Try.f5 false true false false) := by
  refine returnsInHanded_of_change (C := Try.checked) Try.own started (by kernel_rfl) Try.func5
    (ChangeSpec.witness6 (enc := enc) (C := Try.checked) false ⟨#[], #[.slice none 0 0, .slice none 0 0, .int .u32 0, .int .u8 0], []⟩ 8 (by kernel_rfl) (by kernel_rfl) (by kernel_rfl) (by kernel_rfl)) ?_
  intro W base args ds gs before hval0 hW _ _
  refine law_contract (C := Try.checked) Try.laidOut rfl (tb rfl : TabOk Try.prog 4 _).1 rfl (by kernel_rfl) (fun H ds hd => ?_) enc W args ds gs before hW ?_
  · match ds, hd with
    | [_, _, _, _], _ => rfl
  have hval : ∀ (j : Nat) t v, Try.f5.params[j]? = some t → args[j]? = some v → Value.okWide Try.prog W .any base t v := hval0
  obtain ⟨p, q, hA0, hV, rfl, hfz, hnd⟩ := hW
  have hA : DataW.TrodAll enc Try.prog W 0 (fun _ => true) true Try.f5.params.toList args.toList ds p := hA0
  rw [Try.params5] at hA hval
  obtain ⟨args, rfl⟩ : ∃ l : List Value, args = l.toArray := ⟨args.toList, by simp⟩
  obtain ⟨v0, vs0, d0, ds0, p0, q0, hv0, rfl, rfl, h0, hA1⟩ := trodAll_cons hA
  obtain ⟨v1, vs1, d1, ds1, p1, q1, hv1, rfl, rfl, h1, hA2⟩ := trodAll_cons hA1
  obtain ⟨v2, vs2, d2, ds2, p2, q2, hv2, rfl, rfl, h2, hA3⟩ := trodAll_cons hA2
  obtain ⟨v3, vs3, d3, ds3, p3, q3, hv3, rfl, rfl, h3, hA4⟩ := trodAll_cons hA3
  obtain ⟨hvn, rfl, rfl⟩ := trodAll_nil hA4
  have hargs : args = [v0, v1, v2, v3] := by rw [show args = _ from hv0, hv1, hv2, hv3, hvn]
  subst hargs
  obtain ⟨a, ha, ha2⟩ := open_cell reads_cls (tb rfl) rfl (hval 0 22 v0 rfl rfl) h0
  obtain ⟨b, hb, hb2⟩ := open_cell reads_fcts (tb rfl) rfl (hval 1 23 v1 rfl rfl) h1
  obtain ⟨x, hx, hx2⟩ := open_cell (reads_nat (q := .u32) (m := 4294967295) (tb rfl : TabOk Try.prog 30 _) rfl rfl rfl rfl) (tb rfl) rfl (hval 2 30 v2 rfl rfl) h2
  obtain ⟨y, hy, hy2⟩ := open_cell (reads_nat (q := .u8) (m := 255) (tb rfl : TabOk Try.prog 5 _) rfl rfl rfl rfl) (tb rfl) rfl (hval 3 5 v3 rfl rfl) h3
  injection ha with ha _
  injection hb with hb _
  injection hx with hx _
  injection hy with hy _
  subst ha
  subst hb
  subst hx
  subst hy
  exact safeNames_t a.A b.A a.c b.c a.l b.l x y _ (cls_exact ha2) (fcts_exact hb2) (Nat.lt_succ_of_le hy2) (ats_bound ha2) (fct_bound hb2)
theorem safeNames_holds : Rows.SafeNamesSaid :=
  OpenClaim.holds_of_wide 5 Try.f5 rfl rfl rfl rfl rfl rfl rfl ⟨rfl, rfl, rfl, rfl, rfl⟩ rfl rfl rfl rfl rfl (by kernel_rfl) Try.func5 (by kernel_rfl)
    (of_decide_eq_true (by kernel_rfl)) (by unfold Func.isWrapper; rw [if_neg (by decide +kernel)]; exact ⟨rfl, rfl⟩)
    (fun os started H enc _ => safeNames_lifted os started H enc)
end Go.Proofs.Ytndmjpceocecdaa
