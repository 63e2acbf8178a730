/- ShaParts, whatever is handed in: it answers true, and what was handed in reads as it did: the row, and its card. -/
import Derived.Test.YtdookobgkcnncaaDoorK3
import Derived.Test.YtdookobgkcnncaaDoorI1
namespace Go.Proofs.YtdookobgkcnncaaDoor.E
open Go Go.RowKit
theorem reads_u16s : Reads Tryd.prog 32 (rSl (rNat .u16 65535)) := reads_sl (reads_nat (q := .u16) (m := 65535) (tb rfl : TabOk Tryd.prog 38 _) rfl rfl rfl rfl) (tb rfl) rfl rfl
theorem reads_bytess : Reads Tryd.prog 22 (rSl (rSl rByte)) := reads_sl reads_bytes (tb rfl) rfl rfl
end Go.Proofs.YtdookobgkcnncaaDoor.E
namespace Go.Proofs.YtdookobgkcnncaaDoor
open Go.ChangeShapes Go.WideShapes Go.ChangeAt Go.WideMaps Go.WideElems Go.RowKit E
set_option maxRecDepth 100000 in
theorem shaParts_lifted (os : Os) (started : os.Started) (H : Type) (enc : TypeId × Value → H) :
    ReturnsInHanded {} Tryd.checked os 4 .any (fun w args => (Rows.shaPartsSpec.pre enc Tryd.prog Tryd.f4 [] false w args ∧ laidMetH Tryd.prog laidS w) ∧ sizedMet enc Tryd.prog Tryd.f4 (OpenSpec.ofChange Rows.shaPartsSpec) false w args) (Rows.shaPartsSpec.post enc Tryd.prog Tryd.f4 false true false false) := by
  refine returnsInHanded_of_change_and (C := Tryd.checked) (X := fun w _ => laidMetH Tryd.prog laidS w) (fun _ _ _ hh h => h.of_heap hh) Tryd.own started (by kernel_rfl) Tryd.func4
    (ChangeSpec.witness_shaped (enc := enc) (C := Tryd.checked) (os := os) (X := fun w _ => laidMetH Tryd.prog laidS w) false (World.doorLaid Tryd.prog 400 os) #[.slice none 0 0, .slice none 0 0] 8 rfl (World.shaped_of_RefB (by kernel_rfl) (by kernel_rfl)) (by kernel_rfl) (by kernel_rfl) (by kernel_rfl) (door_met os _)) ?_
  intro W base args ds gs before hval0 hW _ hz hL _
  obtain ⟨hB, hK⟩ := of_laid hL
  refine law_contract (C := Tryd.checked) Tryd.laidOut rfl (tb rfl : TabOk Tryd.prog 4 _).1 rfl (by kernel_rfl) (fun H ds hd => ?_) enc W args ds gs before hW ?_
  · match ds, hd with
    | [_, _], _ => rfl
  have hval : ∀ (j : Nat) t v, Tryd.f4.params[j]? = some t → args[j]? = some v → Value.okWide Tryd.prog W .any base t v := hval0
  obtain ⟨p, q, hA0, hV, rfl, hfz, hnd⟩ := hW
  have hA : DataW.TrodAll enc Tryd.prog W 0 (fun _ => true) true Tryd.f4.params.toList args.toList ds p := hA0
  rw [Tryd.params4] at hA hval
  obtain ⟨args, rfl⟩ : ∃ l : List Value, args = l.toArray := ⟨args.toList, by simp⟩
  obtain ⟨v0, vs0, d0, ds0, p0, q0, hv0, rfl, rfl, h0, hA1⟩ := trodAll_cons hA
  obtain ⟨v1, vs1, d1, ds1, p1, q1, hv1, rfl, rfl, h1, hA2⟩ := trodAll_cons hA1
  obtain ⟨hvn, rfl, rfl⟩ := trodAll_nil hA2
  have hargs : args = [v0, v1] := by rw [show args = _ from hv0, hv1, hvn]
  subst hargs
  obtain ⟨a, ha, ha2⟩ := open_cell reads_bytess (tb rfl) rfl (hval 0 22 v0 rfl rfl) h0
  obtain ⟨b, hb, hb2⟩ := open_cell reads_u16s (tb rfl) rfl (hval 1 32 v1 rfl rfl) h1
  injection ha with ha _
  injection hb with hb _
  subst ha
  subst hb
  have l0 := inner_len (tb rfl : TabOk Tryd.prog 22 _) rfl (tb rfl : TabOk Tryd.prog 30 _) rfl rfl (by kernel_rfl) ha2 h0 hz (j := 0) rfl rfl
  exact parts_t a.A b.A a.c b.c a.l b.l _ (slss_src ha2) (fun s hs => bytes_src (ha2.2.2.2 s hs)) l0 (nats_src hb2) (fun n hn => Nat.lt_succ_of_le (hb2.2.2.2 n hn)) hB hK
theorem shaParts_said : Rows.ShaPartsSaid :=
  OpenClaim.holds_of_wide 4 Tryd.f4 rfl rfl rfl rfl rfl rfl rfl ⟨rfl, rfl, rfl, rfl, rfl⟩ rfl rfl rfl rfl rfl (by kernel_rfl) Tryd.func4 (by kernel_rfl)
    (of_decide_eq_true (by kernel_rfl)) (by unfold Func.isWrapper; rw [if_neg (by decide +kernel)]; exact ⟨rfl, rfl⟩)
    (fun os started H enc _ => shaParts_lifted os started H enc)
theorem shaParts_holds : Rows.ShaPartsCardSaid :=
  Claim7.holds_tied_plain_at .later [] [.data, .data] true (true, "33cb01f464bc56839d1140f7db4331bb1b27234b134f393308419f21d9ce6518") true
    shaParts_said (fun _ h => by cases h) (by kernel_rfl) (fun _ h => by cases h) shaParts_row_tie rfl ⟨rfl, rfl⟩ (by kernel_rfl) rfl
    (fun f fn hf hfn => by
      obtain rfl : f = 4 := Option.some.inj ((show Tryd.prog.funcNamed "bailey/baileylaw02.ShaParts" = some 4 by kernel_rfl).symm.trans hf) |>.symm
      obtain rfl : fn = Tryd.f4 := (Option.some.inj (Tryd.func4.symm.trans hfn)).symm
      exact ⟨by kernel_rfl, fun j t ht => by
        rw [Tryd.params4] at ht
        have hm : t ∈ [22, 32] := by simpa using Array.mem_of_getElem? ht
        have hall : ([22, 32].all fun u => !Tryd.prog.wantsStandIn u) = true := by kernel_rfl
        exact (show Tryd.prog.wantsStandIn t = false by simpa using List.all_eq_true.1 hall t hm)⟩)
    (by kernel_rfl)
end Go.Proofs.YtdookobgkcnncaaDoor
