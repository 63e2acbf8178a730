/- OctetRows, whatever is handed in: it answers true, and what was handed in reads as it did. No conditions. -/
import Derived.Test.YtoccilnobgoncaaQ1
import Derived.Test.YtoccilnobgoncaaRows
namespace Go.Proofs.Ytoccilnobgoncaa.E
open Go Go.RowKit
theorem reads_bytes : Reads Try.prog 43 (rSl rByte) := reads_sl (reads_byte (tb rfl : TabOk Try.prog 5 _) rfl rfl) (tb rfl) rfl rfl
theorem reads_nums : Reads Try.prog 83 (rSl (rNat .u64 18446744073709551615)) := reads_sl (reads_nat (q := .u64) (m := 18446744073709551615) (tb rfl : TabOk Try.prog 27 _) rfl rfl rfl rfl) (tb rfl) rfl rfl
theorem reads_bytess : Reads Try.prog 84 (rSl (rSl rByte)) := reads_sl reads_bytes (tb rfl) rfl rfl
theorem nats_src {s : Sl Nat} {W : World} (h : (rSl (rNat .u64 18446744073709551615)).ok s (memOf W)) : has [exact_ W] (srcAt 1 s.A s.l.length (natsV .u64 s.l)) := by
  have h1 : srcAt (rNat .u64 18446744073709551615).sz s.A s.l.length (s.l.flatMap (rNat .u64 18446744073709551615).cells) (memOf W) := h.2.2.1
  have h2 : ∀ l : List Nat, l.flatMap (rNat .u64 18446744073709551615).cells = natsV .u64 l := fun l => by
    induction l with
    | nil => rfl
    | cons x xs ih => rw [List.flatMap_cons, ih]; rfl
  rw [h2] at h1
  exact has_exact h1
theorem slss_src {s : Sl (Sl UInt8)} {W : World} (h : (rSl (rSl rByte)).ok s (memOf W)) : has [exact_ W] (srcAt 1 s.A s.l.length (s.l.map Sl.v)) := by
  have h1 : srcAt (rSl rByte).sz s.A s.l.length (s.l.flatMap (rSl rByte).cells) (memOf W) := h.2.2.1
  have h2 : ∀ l : List (Sl UInt8), l.flatMap (rSl rByte).cells = l.map Sl.v := fun l => by
    induction l with
    | nil => rfl
    | cons x xs ih => rw [List.flatMap_cons, ih]; rfl
  rw [h2] at h1
  exact has_exact h1
end Go.Proofs.Ytoccilnobgoncaa.E
namespace Go.Proofs.Ytoccilnobgoncaa
open Go.ChangeShapes Go.WideShapes Go.ChangeAt Go.RowKit E
theorem Try.own : ownKnob Try.prog.godebug = none := by kernel_rfl
theorem Try.laidOut : laidOutB Try.prog = true := by kernel_rfl
set_option maxRecDepth 100000 in
theorem octetRows_lifted (os : Os) (started : os.Started) (H : Type) (enc : TypeId × Value → H) :
    ReturnsInHanded {} Try.checked os 13 .any (Rows.octetRowsSpec.pre6 enc Try.prog Try.f13 Rows.octetRowsRow.domain false) (Rows.octetRowsSpec.post enc Try.prog Try.f13 false true false false) := by
  refine returnsInHanded_of_change (C := Try.checked) Try.own started (by kernel_rfl) Try.func13
    (ChangeSpec.witness6 (enc := enc) (C := Try.checked) false ⟨#[], #[.slice none 0 0, .slice none 0 0, .int .u16 0], []⟩ 8 (by kernel_rfl) (by kernel_rfl) (by kernel_rfl) (by kernel_rfl)) ?_
  intro W base args ds gs before hval0 hW _ _
  refine law_contract (C := Try.checked) Try.laidOut rfl (tb rfl : TabOk Try.prog 4 _).1 rfl (by kernel_rfl) (fun H ds hd => ?_) enc W args ds gs before hW ?_
  · match ds, hd with
    | [_, _, _], _ => rfl
  have hval : ∀ (j : Nat) t v, Try.f13.params[j]? = some t → args[j]? = some v → Value.okWide Try.prog W .any base t v := hval0
  obtain ⟨p, q, hA0, hV, rfl, hfz, hnd⟩ := hW
  have hA : DataW.TrodAll enc Try.prog W 0 (fun _ => true) true Try.f13.params.toList args.toList ds p := hA0
  rw [Try.params13] at hA hval
  obtain ⟨args, rfl⟩ : ∃ l : List Value, args = l.toArray := ⟨args.toList, by simp⟩
  obtain ⟨v0, vs0, d0, ds0, p0, q0, hv0, rfl, rfl, h0, hA1⟩ := trodAll_cons hA
  obtain ⟨v1, vs1, d1, ds1, p1, q1, hv1, rfl, rfl, h1, hA2⟩ := trodAll_cons hA1
  obtain ⟨v2, vs2, d2, ds2, p2, q2, hv2, rfl, rfl, h2, hA3⟩ := trodAll_cons hA2
  obtain ⟨hvn, rfl, rfl⟩ := trodAll_nil hA3
  have hargs : args = [v0, v1, v2] := by rw [show args = _ from hv0, hv1, hv2, hvn]
  subst hargs
  obtain ⟨a, ha, ha2⟩ := open_cell reads_nums (tb rfl) rfl (hval 0 83 v0 rfl rfl) h0
  obtain ⟨b, hb, hb2⟩ := open_cell reads_bytess (tb rfl) rfl (hval 1 84 v1 rfl rfl) h1
  obtain ⟨k, hk, hk2⟩ := open_cell (reads_nat (q := .u16) (m := 65535) (tb rfl : TabOk Try.prog 85 _) rfl rfl rfl rfl) (tb rfl) rfl (hval 2 85 v2 rfl rfl) h2
  injection ha with ha _
  injection hb with hb _
  injection hk with hk _
  subst ha
  subst hb
  subst hk
  exact rows_t a.A b.A a.c b.c a.l b.l k _ (nats_src ha2) (fun n hn => Nat.lt_succ_of_le (ha2.2.2.2 n hn)) (slss_src hb2) (fun s hs => bytes_src (hb2.2.2.2 s hs)) (Nat.lt_succ_of_le hk2)
theorem octetRows_holds : Rows.OctetRowsSaid :=
  OpenClaim.holds_of_wide 13 Try.f13 rfl rfl rfl rfl rfl rfl rfl ⟨rfl, rfl, rfl, rfl, rfl⟩ rfl rfl rfl rfl rfl (by kernel_rfl) Try.func13 (by kernel_rfl)
    (of_decide_eq_true (by kernel_rfl)) (by unfold Func.isWrapper; rw [if_neg (by decide +kernel)]; exact ⟨rfl, rfl⟩)
    (fun os started H enc _ => octetRows_lifted os started H enc)
end Go.Proofs.Ytoccilnobgoncaa
