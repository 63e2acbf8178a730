/- AuditPlays, whatever records and number are handed in: it answers true, and what was handed in reads as it did. No conditions. -/
import Derived.Test.YtoccilnobgoncaaA6
import Derived.Test.YtoccilnobgoncaaA7
import Derived.Test.YtoccilnobgoncaaRows
namespace Go.Proofs.Ytoccilnobgoncaa
open Go.ChangeShapes Go.WideShapes Go.ChangeAt Go.RowKit E
set_option maxRecDepth 100000 in
theorem auditPlays_lifted (os : Os) (started : os.Started) (H : Type) (enc : TypeId × Value → H) :
    ReturnsInHanded {} Try.checked os 3 .any (Rows.auditPlaysSpec.pre6 enc Try.prog Try.f3 Rows.auditPlaysRow.domain false) (Rows.auditPlaysSpec.post enc Try.prog Try.f3 false true false false) := by
  refine returnsInHanded_of_change (C := Try.checked) Try.own started (by kernel_rfl) Try.func3
    (ChangeSpec.witness6 (enc := enc) (C := Try.checked) false ⟨#[], #[.slice none 0 0, .int .i64 0], []⟩ 8 (by kernel_rfl) (by kernel_rfl) (by kernel_rfl) (by kernel_rfl)) ?_
  intro W base args ds gs before hval0 hW _ _
  refine law_contract (C := Try.checked) Try.laidOut rfl (tb rfl : TabOk Try.prog 4 _).1 rfl (by kernel_rfl) (fun H ds hd => ?_) enc W args ds gs before hW ?_
  · match ds, hd with
    | [_, _], _ => rfl
  have hval : ∀ (j : Nat) t v, Try.f3.params[j]? = some t → args[j]? = some v → Value.okWide Try.prog W .any base t v := hval0
  obtain ⟨p, q, hA0, hV, rfl, hfz, hnd⟩ := hW
  have hA : DataW.TrodAll enc Try.prog W 0 (fun _ => true) true Try.f3.params.toList args.toList ds p := hA0
  rw [Try.params3] at hA hval
  obtain ⟨v0, v1, d0, d1, p0, p1, rfl, rfl, rfl, h0, h1⟩ := trodAll_two hA
  obtain ⟨l, hl, hr⟩ := open_cell reads_recs (tb rfl) rfl (hval 0 22 v0 rfl rfl) h0
  obtain ⟨n, hn, hn2⟩ := open_cell (reads_int (q := .i64) (tb rfl : TabOk Try.prog 3 _) rfl rfl) (tb rfl) rfl (hval 1 3 v1 rfl rfl) h1
  injection hn with hn _
  subst hn
  injection hl with hl _
  subst hl
  obtain ⟨hc1, hc2, hsrc, hok⟩ := hr
  exact plays_t l n _ (has_exact hsrc) (fun x hx => has_exact (rec_args (hok x hx))) hc1 hn2.2
theorem auditPlays_holds : Rows.AuditPlaysSaid :=
  OpenClaim.holds_of_wide 3 Try.f3 rfl rfl rfl rfl rfl rfl rfl ⟨rfl, rfl, rfl, rfl, rfl⟩ rfl rfl rfl rfl rfl (by kernel_rfl) Try.func3 (by kernel_rfl)
    (of_decide_eq_true (by kernel_rfl)) (by unfold Func.isWrapper; rw [if_neg (by decide +kernel)]; exact ⟨rfl, rfl⟩)
    (fun os started H enc _ => auditPlays_lifted os started H enc)
end Go.Proofs.Ytoccilnobgoncaa
