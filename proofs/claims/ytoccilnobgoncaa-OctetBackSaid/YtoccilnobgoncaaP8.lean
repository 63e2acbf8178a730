/- OctetBack, whatever is handed in: it answers true, and what was handed in reads as it did. No conditions. -/
import Derived.Test.YtoccilnobgoncaaP7
import Derived.Test.YtoccilnobgoncaaRows
namespace Go.Proofs.Ytoccilnobgoncaa.E
open Go Go.RowKit
theorem reads_bytes : Reads Try.prog 43 (rSl rByte) := reads_sl (reads_byte (tb rfl : TabOk Try.prog 5 _) rfl rfl) (tb rfl) rfl rfl
end Go.Proofs.Ytoccilnobgoncaa.E
namespace Go.Proofs.Ytoccilnobgoncaa
open Go.ChangeShapes Go.WideShapes Go.ChangeAt Go.RowKit E
theorem Try.own : ownKnob Try.prog.godebug = none := by kernel_rfl
theorem Try.laidOut : laidOutB Try.prog = true := by kernel_rfl
set_option maxRecDepth 100000 in
theorem octetBack_lifted (os : Os) (started : os.Started) (H : Type) (enc : TypeId × Value → H) :
    ReturnsInHanded {} Try.checked os 14 .any (Rows.octetBackSpec.pre6 enc Try.prog Try.f14 Rows.octetBackRow.domain false) (Rows.octetBackSpec.post enc Try.prog Try.f14 false true false false) := by
  refine returnsInHanded_of_change (C := Try.checked) Try.own started (by kernel_rfl) Try.func14
    (ChangeSpec.witness6 (enc := enc) (C := Try.checked) false ⟨#[], #[.slice none 0 0, .slice none 0 0, .slice none 0 0, .slice none 0 0, .int .u64 0, .int .u8 0], []⟩ 8 (by kernel_rfl) (by kernel_rfl) (by kernel_rfl) (by kernel_rfl)) ?_
  intro W base args ds gs before hval0 hW _ _
  refine law_contract (C := Try.checked) Try.laidOut rfl (tb rfl : TabOk Try.prog 4 _).1 rfl (by kernel_rfl) (fun H ds hd => ?_) enc W args ds gs before hW ?_
  · match ds, hd with
    | [_, _, _, _, _, _], _ => rfl
  have hval : ∀ (j : Nat) t v, Try.f14.params[j]? = some t → args[j]? = some v → Value.okWide Try.prog W .any base t v := hval0
  obtain ⟨p, q, hA0, hV, rfl, hfz, hnd⟩ := hW
  have hA : DataW.TrodAll enc Try.prog W 0 (fun _ => true) true Try.f14.params.toList args.toList ds p := hA0
  rw [Try.params14] at hA hval
  obtain ⟨args, rfl⟩ : ∃ l : List Value, args = l.toArray := ⟨args.toList, by simp⟩
  obtain ⟨v0, vs0, d0, ds0, p0, q0, hv0, rfl, rfl, h0, hA1⟩ := trodAll_cons hA
  obtain ⟨v1, vs1, d1, ds1, p1, q1, hv1, rfl, rfl, h1, hA2⟩ := trodAll_cons hA1
  obtain ⟨v2, vs2, d2, ds2, p2, q2, hv2, rfl, rfl, h2, hA3⟩ := trodAll_cons hA2
  obtain ⟨v3, vs3, d3, ds3, p3, q3, hv3, rfl, rfl, h3, hA4⟩ := trodAll_cons hA3
  obtain ⟨v4, vs4, d4, ds4, p4, q4, hv4, rfl, rfl, h4, hA5⟩ := trodAll_cons hA4
  obtain ⟨v5, vs5, d5, ds5, p5, q5, hv5, rfl, rfl, h5, hA6⟩ := trodAll_cons hA5
  obtain ⟨hvn, rfl, rfl⟩ := trodAll_nil hA6
  have hargs : args = [v0, v1, v2, v3, v4, v5] := by rw [show args = _ from hv0, hv1, hv2, hv3, hv4, hv5, hvn]
  subst hargs
  obtain ⟨a, ha, ha2⟩ := open_cell reads_bytes (tb rfl) rfl (hval 0 43 v0 rfl rfl) h0
  obtain ⟨b, hb, hb2⟩ := open_cell reads_bytes (tb rfl) rfl (hval 1 43 v1 rfl rfl) h1
  obtain ⟨c, hc, hc2⟩ := open_cell reads_bytes (tb rfl) rfl (hval 2 43 v2 rfl rfl) h2
  obtain ⟨d, hd, hd2⟩ := open_cell reads_bytes (tb rfl) rfl (hval 3 43 v3 rfl rfl) h3
  obtain ⟨n, hn, hn2⟩ := open_cell (reads_nat (q := .u64) (m := 18446744073709551615) (tb rfl : TabOk Try.prog 27 _) rfl rfl rfl rfl) (tb rfl) rfl (hval 4 27 v4 rfl rfl) h4
  obtain ⟨k, hk, hk2⟩ := open_cell (reads_nat (q := .u8) (m := 255) (tb rfl : TabOk Try.prog 5 _) rfl rfl rfl rfl) (tb rfl) rfl (hval 5 5 v5 rfl rfl) h5
  injection ha with ha _
  injection hb with hb _
  injection hc with hc _
  injection hd with hd _
  injection hn with hn _
  injection hk with hk _
  subst ha
  subst hb
  subst hc
  subst hd
  subst hn
  subst hk
  exact back_t a.A b.A c.A d.A a.c b.c c.c d.c a.l b.l c.l d.l n k _ (bytes_src ha2) (bytes_src hb2) (bytes_src hc2) (bytes_src hd2) hd2.1 (Nat.lt_succ_of_le hn2) (Nat.lt_succ_of_le hk2)
theorem octetBack_holds : Rows.OctetBackSaid :=
  OpenClaim.holds_of_wide 14 Try.f14 rfl rfl rfl rfl rfl rfl rfl ⟨rfl, rfl, rfl, rfl, rfl⟩ rfl rfl rfl rfl rfl (by kernel_rfl) Try.func14 (by kernel_rfl)
    (of_decide_eq_true (by kernel_rfl)) (by unfold Func.isWrapper; rw [if_neg (by decide +kernel)]; exact ⟨rfl, rfl⟩)
    (fun os started H enc _ => octetBack_lifted os started H enc)
end Go.Proofs.Ytoccilnobgoncaa
