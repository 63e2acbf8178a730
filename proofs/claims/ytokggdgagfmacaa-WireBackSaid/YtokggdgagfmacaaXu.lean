/- WireBack, whatever is handed in: it answers true, and what was handed in reads as it did. -/
import Derived.Test.YtokggdgagfmacaaXt
import Derived.Test.YtokggdgagfmacaaXp
import Derived.Test.YtokggdgagfmacaaRows
namespace Go.Proofs.Ytokggdgagfmacaa
open Go.ChangeShapes Go.WideShapes Go.ChangeAt Go.RowKit E
theorem Try.own : ownKnob Try.prog.godebug = none := by kernel_rfl
theorem Try.laidOut : laidOutB Try.prog = true := by kernel_rfl
set_option maxRecDepth 100000 in
theorem wireBack_lifted (os : Os) (started : os.Started) (H : Type) (enc : TypeId × Value → H) :
    ReturnsInHanded {} Try.checked os 7 .any (Rows.wireBackSpec.pre6 enc Try.prog Try.f7 Rows.wireBackRow.domain false) (Rows.wireBackSpec.post enc Try.prog Try.f7 false true false false) := by
  refine returnsInHanded_of_change (C := Try.checked) Try.own started (by kernel_rfl) Try.func7
    (ChangeSpec.witness6 (enc := enc) (C := Try.checked) false ⟨#[], #[.agg #[.int .u32 0, .slice none 0 0], .agg #[.int .u32 0, .slice none 0 0, .slice none 0 0], .agg #[.bool false, .bool false, .int .u32 0, .int .u32 0, .slice none 0 0, .slice none 0 0], .slice none 0 0, .slice none 0 0], []⟩ 8 (by kernel_rfl) (by kernel_rfl) (by kernel_rfl) (by kernel_rfl)) ?_
  intro W base args ds gs before hval0 hW _ _
  refine law_contract (C := Try.checked) Try.laidOut rfl (tb rfl : TabOk Try.prog 4 _).1 rfl (by kernel_rfl) (fun H ds hd => ?_) enc W args ds gs before hW ?_
  · match ds, hd with
    | [_, _, _, _, _], _ => rfl
  have hval : ∀ (j : Nat) t v, Try.f7.params[j]? = some t → args[j]? = some v → Value.okWide Try.prog W .any base t v := hval0
  obtain ⟨p, q, hA0, hV, rfl, hfz, hnd⟩ := hW
  have hA : DataW.TrodAll enc Try.prog W 0 (fun _ => true) true Try.f7.params.toList args.toList ds p := hA0
  rw [Try.params7] at hA hval
  obtain ⟨args, rfl⟩ : ∃ l : List Value, args = l.toArray := ⟨args.toList, by simp⟩
  obtain ⟨v0, vs0, d0, ds0, p0, q0, hv0, rfl, rfl, h0, hA1⟩ := trodAll_cons hA
  obtain ⟨v1, vs1, d1, ds1, p1, q1, hv1, rfl, rfl, h1, hA2⟩ := trodAll_cons hA1
  obtain ⟨v2, vs2, d2, ds2, p2, q2, hv2, rfl, rfl, h2, hA3⟩ := trodAll_cons hA2
  obtain ⟨v3, vs3, d3, ds3, p3, q3, hv3, rfl, rfl, h3, hA4⟩ := trodAll_cons hA3
  obtain ⟨v4, vs4, d4, ds4, p4, q4, hv4, rfl, rfl, h4, hA5⟩ := trodAll_cons hA4
  obtain ⟨hvn, rfl, rfl⟩ := trodAll_nil hA5
  have hargs : args = [v0, v1, v2, v3, v4] := by rw [show args = _ from hv0, hv1, hv2, hv3, hv4, hvn]
  subst hargs
  obtain ⟨f, hf, hf2⟩ := open_agg reads_fct (tb rfl) rfl (hval 0 26 v0 rfl rfl) h0
  obtain ⟨c, hc, hc2⟩ := open_agg reads_cl (tb rfl) rfl (hval 1 45 v1 rfl rfl) h1
  obtain ⟨r, hr, hr2⟩ := open_agg reads_rl (tb rfl) rfl (hval 2 59 v2 rfl rfl) h2
  obtain ⟨a, ha, ha2⟩ := open_cell reads_bytes (tb rfl) rfl (hval 3 22 v3 rfl rfl) h3
  obtain ⟨b, hb, hb2⟩ := open_cell reads_bytes (tb rfl) rfl (hval 4 22 v4 rfl rfl) h4
  injection ha with ha _
  injection hb with hb _
  subst hf
  subst hc
  subst hr
  subst ha
  subst hb
  exact wback_t f c r a.A b.A a.l.length a.c b.l.length b.c a.l b.l _ (fct_exact hf2) ⟨hf2.1, hf2.2.2.2⟩ (cl_exact hc2) (cl_fit hc2) (rl_exact hr2) (rl_fit hr2) (bytes_src ha2) (bytes_src hb2) ha2.1 hb2.1
theorem wireBack_holds : Rows.WireBackSaid :=
  OpenClaim.holds_of_wide 7 Try.f7 rfl rfl rfl rfl rfl rfl rfl ⟨rfl, rfl, rfl, rfl, rfl⟩ rfl rfl rfl rfl rfl (by kernel_rfl) Try.func7 (by kernel_rfl)
    (of_decide_eq_true (by kernel_rfl)) (by unfold Func.isWrapper; rw [if_neg (by decide +kernel)]; exact ⟨rfl, rfl⟩)
    (fun os started H enc _ => wireBack_lifted os started H enc)
end Go.Proofs.Ytokggdgagfmacaa
