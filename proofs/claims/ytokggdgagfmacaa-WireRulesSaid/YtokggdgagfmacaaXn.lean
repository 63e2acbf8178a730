/- WireRules, whatever is handed in: it answers true, and what was handed in reads as it did. -/
import Derived.Test.YtokggdgagfmacaaXp
import Derived.Test.YtokggdgagfmacaaRows
namespace Go.Proofs.Ytokggdgagfmacaa
open Go.ChangeShapes Go.WideShapes Go.ChangeAt Go.RowKit E
theorem Try.own : ownKnob Try.prog.godebug = none := by kernel_rfl
theorem Try.laidOut : laidOutB Try.prog = true := by kernel_rfl
set_option maxRecDepth 100000 in
theorem wireRules_lifted (os : Os) (started : os.Started) (H : Type) (enc : TypeId × Value → H) :
    ReturnsInHanded {} Try.checked os 5 .any (Rows.wireRulesSpec.pre6 enc Try.prog Try.f5 Rows.wireRulesRow.domain false) (Rows.wireRulesSpec.post enc Try.prog Try.f5 false true false false) := by
  refine returnsInHanded_of_change (C := Try.checked) Try.own started (by kernel_rfl) Try.func5
    (ChangeSpec.witness6 (enc := enc) (C := Try.checked) false ⟨#[], #[.slice none 0 0, .agg #[.bool false, .bool false, .int .u32 0, .int .u32 0, .slice none 0 0, .slice none 0 0], .slice none 0 0, .int .i64 0], []⟩ 8 (by kernel_rfl) (by kernel_rfl) (by kernel_rfl) (by kernel_rfl)) ?_
  intro W base args ds gs before hval0 hW _ _
  refine law_contract (C := Try.checked) Try.laidOut rfl (tb rfl : TabOk Try.prog 4 _).1 rfl (by kernel_rfl) (fun H ds hd => ?_) enc W args ds gs before hW ?_
  · match ds, hd with
    | [_, _, _, _], _ => rfl
  have hval : ∀ (j : Nat) t v, Try.f5.params[j]? = some t → args[j]? = some v → Value.okWide Try.prog W .any base t v := hval0
  obtain ⟨p, q, hA0, hV, rfl, hfz, hnd⟩ := hW
  have hA : DataW.TrodAll enc Try.prog W 0 (fun _ => true) true Try.f5.params.toList args.toList ds p := hA0
  rw [Try.params5] at hA hval
  obtain ⟨args, rfl⟩ : ∃ l : List Value, args = l.toArray := ⟨args.toList, by simp⟩
  obtain ⟨v0, vs0, d0, ds0, p0, q0, hv0, rfl, rfl, h0, hA1⟩ := trodAll_cons hA
  obtain ⟨v1, vs1, d1, ds1, p1, q1, hv1, rfl, rfl, h1, hA2⟩ := trodAll_cons hA1
  obtain ⟨v2, vs2, d2, ds2, p2, q2, hv2, rfl, rfl, h2, hA3⟩ := trodAll_cons hA2
  obtain ⟨v3, vs3, d3, ds3, p3, q3, hv3, rfl, rfl, h3, hA4⟩ := trodAll_cons hA3
  obtain ⟨hvn, rfl, rfl⟩ := trodAll_nil hA4
  have hargs : args = [v0, v1, v2, v3] := by rw [show args = _ from hv0, hv1, hv2, hv3, hvn]
  subst hargs
  obtain ⟨a, ha, ha2⟩ := open_cell reads_bytes (tb rfl) rfl (hval 0 22 v0 rfl rfl) h0
  obtain ⟨f, hf, hf2⟩ := open_agg reads_rl (tb rfl) rfl (hval 1 59 v1 rfl rfl) h1
  obtain ⟨b, hb, hb2⟩ := open_cell reads_bytes (tb rfl) rfl (hval 2 22 v2 rfl rfl) h2
  obtain ⟨x, hx, hx2⟩ := open_cell (reads_int (q := .i64) (tb rfl : TabOk Try.prog 3 _) rfl rfl) (tb rfl) rfl (hval 3 3 v3 rfl rfl) h3
  injection ha with ha _
  injection hb with hb _
  injection hx with hx _
  subst ha
  subst hf
  subst hb
  subst hx
  exact wrules_t a.A b.A a.l.length a.c b.l.length b.c a.l b.l f x _ (bytes_src ha2) (bytes_src hb2) hb2.1 (rl_exact hf2) (rl_fit hf2)
theorem wireRules_holds : Rows.WireRulesSaid :=
  OpenClaim.holds_of_wide 5 Try.f5 rfl rfl rfl rfl rfl rfl rfl ⟨rfl, rfl, rfl, rfl, rfl⟩ rfl rfl rfl rfl rfl (by kernel_rfl) Try.func5 (by kernel_rfl)
    (of_decide_eq_true (by kernel_rfl)) (by unfold Func.isWrapper; rw [if_neg (by decide +kernel)]; exact ⟨rfl, rfl⟩)
    (fun os started H enc _ => wireRules_lifted os started H enc)
end Go.Proofs.Ytokggdgagfmacaa
