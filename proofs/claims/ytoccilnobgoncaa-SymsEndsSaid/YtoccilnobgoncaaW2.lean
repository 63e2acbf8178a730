/- SymsEnds, whatever is handed in: it answers true, and what was handed in reads as it did. No conditions. -/
import Derived.Test.YtoccilnobgoncaaW1
import Derived.Test.YtoccilnobgoncaaRows
namespace Go.Proofs.Ytoccilnobgoncaa.E
open Go Go.RowKit
theorem u8_of {n : Int} {m : Mem} (h : (rInt .u8).ok n m) : ∃ c : UInt8, n = (c.toNat : Int) := by
  obtain ⟨h1, h2⟩ := h
  have h3 : 0 ≤ n := h1
  have h4 : n ≤ 255 := h2
  refine ⟨UInt8.ofNat n.toNat, ?_⟩
  rw [UInt8.toNat_ofNat_of_lt' (by show n.toNat < 256; omega)]
  omega
end Go.Proofs.Ytoccilnobgoncaa.E
namespace Go.Proofs.Ytoccilnobgoncaa
open Go.ChangeShapes Go.WideShapes Go.ChangeAt Go.RowKit E
theorem Try.own : ownKnob Try.prog.godebug = none := by kernel_rfl
theorem Try.laidOut : laidOutB Try.prog = true := by kernel_rfl
set_option maxRecDepth 100000 in
theorem symsEnds_lifted (os : Os) (started : os.Started) (H : Type) (enc : TypeId × Value → H) :
    ReturnsInHanded {} Try.checked os 5 .any (Rows.symsEndsSpec.pre6 enc Try.prog Try.f5 Rows.symsEndsRow.domain false) (Rows.symsEndsSpec.post enc Try.prog Try.f5 false true false false) := by
  refine returnsInHanded_of_change (C := Try.checked) Try.own started (by kernel_rfl) Try.func5
    (ChangeSpec.witness6 (enc := enc) (C := Try.checked) false ⟨#[], #[.int .i8 0, .int .u8 0, .int .u8 0, .bool false], []⟩ 8 (by kernel_rfl) (by kernel_rfl) (by kernel_rfl) (by kernel_rfl)) ?_
  intro W base args ds gs before hval0 hW _ _
  refine law_contract (C := Try.checked) Try.laidOut rfl (tb rfl : TabOk Try.prog 4 _).1 rfl (by kernel_rfl) (fun H ds hd => ?_) enc W args ds gs before hW ?_
  · match ds, hd with
    | [_, _, _, _], _ => rfl
  have hval : ∀ (j : Nat) t v, Try.f5.params[j]? = some t → args[j]? = some v → Value.okWide Try.prog W .any base t v := hval0
  obtain ⟨p, q, hA0, hV, rfl, hfz, hnd⟩ := hW
  have hA : DataW.TrodAll enc Try.prog W 0 (fun _ => true) true Try.f5.params.toList args.toList ds p := hA0
  rw [Try.params5] at hA hval
  obtain ⟨args, rfl⟩ : ∃ l : List Value, args = l.toArray := ⟨args.toList, by simp⟩
  obtain ⟨v0, vs0, d0, ds0, p0, q0, hv0, rfl, rfl, h0, hA1⟩ := trodAll_cons hA
  obtain ⟨v1, vs1, d1, ds1, p1, q1, hv1, rfl, rfl, h1, hA2⟩ := trodAll_cons hA1
  obtain ⟨v2, vs2, d2, ds2, p2, q2, hv2, rfl, rfl, h2, hA3⟩ := trodAll_cons hA2
  obtain ⟨v3, vs3, d3, ds3, p3, q3, hv3, rfl, rfl, h3, hA4⟩ := trodAll_cons hA3
  obtain ⟨hvn, rfl, rfl⟩ := trodAll_nil hA4
  have hargs : args = [v0, v1, v2, v3] := by rw [show args = _ from hv0, hv1, hv2, hv3, hvn]
  subst hargs
  obtain ⟨o, ho, ho2⟩ := open_cell (reads_int (q := .i8) (tb rfl : TabOk Try.prog 42 _) rfl rfl) (tb rfl) rfl (hval 0 42 v0 rfl rfl) h0
  obtain ⟨x, hx, hx2⟩ := open_cell (reads_int (q := .u8) (tb rfl : TabOk Try.prog 5 _) rfl rfl) (tb rfl) rfl (hval 1 5 v1 rfl rfl) h1
  obtain ⟨y, hy, hy2⟩ := open_cell (reads_int (q := .u8) (tb rfl : TabOk Try.prog 5 _) rfl rfl) (tb rfl) rfl (hval 2 5 v2 rfl rfl) h2
  obtain ⟨z, hz, hz2⟩ := open_cell (reads_bool (tb rfl : TabOk Try.prog 4 _) rfl rfl) (tb rfl) rfl (hval 3 4 v3 rfl rfl) h3
  injection ho with ho _
  injection hx with hx _
  injection hy with hy _
  injection hz with hz _
  obtain ⟨c, rfl⟩ := u8_of hx2
  obtain ⟨a, rfl⟩ := u8_of hy2
  subst ho
  subst hx
  subst hy
  subst hz
  exact ends_t o c a z _ ho2.1 ho2.2
theorem symsEnds_holds : Rows.SymsEndsSaid :=
  OpenClaim.holds_of_wide 5 Try.f5 rfl rfl rfl rfl rfl rfl rfl ⟨rfl, rfl, rfl, rfl, rfl⟩ rfl rfl rfl rfl rfl (by kernel_rfl) Try.func5 (by kernel_rfl)
    (of_decide_eq_true (by kernel_rfl)) (by unfold Func.isWrapper; rw [if_neg (by decide +kernel)]; exact ⟨rfl, rfl⟩)
    (fun os started H enc _ => symsEnds_lifted os started H enc)
end Go.Proofs.Ytoccilnobgoncaa
