/- LexBlanks, whatever is handed in: it answers true: the row, and its card. -/
import Derived.Test.YtebeckkkckijeaaDoorV2
import Derived.Test.YtebeckkkckijeaaDoorI5
namespace Go.Proofs.YtebeckkkckijeaaDoor.E
open Go Go.RowKit
theorem reads_bytes : Reads Tryd.prog 34 (rSl rByte) := reads_sl (reads_byte (tb rfl : TabOk Tryd.prog 5 _) rfl rfl) (tb rfl) rfl rfl
end Go.Proofs.YtebeckkkckijeaaDoor.E
namespace Go.Proofs.YtebeckkkckijeaaDoor
open Go.ChangeShapes Go.WideShapes Go.ChangeAt Go.WideMaps Go.WideElems Go.RowKit E
set_option maxRecDepth 100000 in
theorem lexBlanks_lifted (os : Os) (started : os.Started) (H : Type) (enc : TypeId × Value → H) :
    ReturnsInHanded {} Tryd.checked os 5 .any (fun w args => (Rows.lexBlanksSpec.pre enc Tryd.prog Tryd.f5 [] false w args ∧ laidMetH Tryd.prog laidS w) ∧ sizedMet enc Tryd.prog Tryd.f5 (OpenSpec.ofChange Rows.lexBlanksSpec) false w args) (Rows.lexBlanksSpec.post enc Tryd.prog Tryd.f5 false true false false) := by
  refine returnsInHanded_of_change_and (C := Tryd.checked) (X := fun w _ => laidMetH Tryd.prog laidS w) (fun _ _ _ hh h => h.of_heap hh) Tryd.own started (by kernel_rfl) Tryd.func5
    (ChangeSpec.witness_shaped (enc := enc) (C := Tryd.checked) (os := os) (X := fun w _ => laidMetH Tryd.prog laidS w) false (World.doorLaid Tryd.prog 400 os) #[.string ⟨#[]⟩, .string ⟨#[]⟩, .slice none 0 0] 8 rfl (World.shaped_of_RefB (by kernel_rfl) (by kernel_rfl)) (by kernel_rfl) (by kernel_rfl) (by kernel_rfl) (door_met os _)) ?_
  intro W base args ds gs before hval0 hW _ hz hL _
  obtain ⟨hB, hK⟩ := of_laid hL
  refine law_contract (C := Tryd.checked) Tryd.laidOut rfl (tb rfl : TabOk Tryd.prog 4 _).1 rfl (by kernel_rfl) (fun H ds hd => ?_) enc W args ds gs before hW ?_
  · match ds, hd with
    | [_, _, _], _ => rfl
  have hval : ∀ (j : Nat) t v, Tryd.f5.params[j]? = some t → args[j]? = some v → Value.okWide Tryd.prog W .any base t v := hval0
  obtain ⟨p, q, hA0, hV, rfl, hfz, hnd⟩ := hW
  have hA : DataW.TrodAll enc Tryd.prog W 0 (fun _ => true) true Tryd.f5.params.toList args.toList ds p := hA0
  rw [Tryd.params5] at hA hval
  obtain ⟨args, rfl⟩ : ∃ l : List Value, args = l.toArray := ⟨args.toList, by simp⟩
  obtain ⟨v0, vs0, d0, ds0, p0, q0, hv0, rfl, rfl, h0, hA1⟩ := trodAll_cons hA
  obtain ⟨v1, vs1, d1, ds1, p1, q1, hv1, rfl, rfl, h1, hA2⟩ := trodAll_cons hA1
  obtain ⟨v2, vs2, d2, ds2, p2, q2, hv2, rfl, rfl, h2, hA3⟩ := trodAll_cons hA2
  obtain ⟨hvn, rfl, rfl⟩ := trodAll_nil hA3
  have hargs : args = [v0, v1, v2] := by rw [show args = _ from hv0, hv1, hv2, hvn]
  subst hargs
  obtain ⟨a, ha, ha2⟩ := open_cell reads_text (tb rfl) rfl (hval 0 9 v0 rfl rfl) h0
  obtain ⟨b, hb, hb2⟩ := open_cell reads_text (tb rfl) rfl (hval 1 9 v1 rfl rfl) h1
  obtain ⟨c, hc, hc2⟩ := open_cell reads_bytes (tb rfl) rfl (hval 2 34 v2 rfl rfl) h2
  injection ha with ha _
  injection hb with hb _
  injection hc with hc _
  subst ha
  subst hb
  subst hc
  exact blanks_t a b c.A c.c c.l _ (bytes_src hc2) hB hK
theorem lexBlanks_said : Rows.LexBlanksSaid :=
  OpenClaim.holds_of_wide 5 Tryd.f5 rfl rfl rfl rfl rfl rfl rfl ⟨rfl, rfl, rfl, rfl, rfl⟩ rfl rfl rfl rfl rfl (by kernel_rfl) Tryd.func5 (by kernel_rfl)
    (of_decide_eq_true (by kernel_rfl)) (by unfold Func.isWrapper; rw [if_neg (by decide +kernel)]; exact ⟨rfl, rfl⟩)
    (fun os started H enc _ => lexBlanks_lifted os started H enc)
theorem lexBlanks_holds : Rows.LexBlanksCardSaid :=
  Claim7.holds_tied_plain_at .later [] [.mapped, .mapped] true (true, "450c210d259bac8b8eb7a03a8e3245a9bfa8cc90e881f557c33216adaf1d29a7") false
    lexBlanks_said (fun _ h => by cases h) (by kernel_rfl) (fun _ h => by cases h) lexBlanks_row_tie rfl ⟨rfl, rfl⟩ (by kernel_rfl) rfl
    (fun f fn hf hfn => by
      obtain rfl : f = 5 := Option.some.inj ((show Tryd.prog.funcNamed "bailey/baileylaw07.LexBlanks" = some 5 by kernel_rfl).symm.trans hf) |>.symm
      obtain rfl : fn = Tryd.f5 := (Option.some.inj (Tryd.func5.symm.trans hfn)).symm
      exact ⟨by kernel_rfl, fun j t ht => by
        rw [Tryd.params5] at ht
        have hm : t ∈ [9, 9, 34] := by simpa using Array.mem_of_getElem? ht
        have hall : ([9, 9, 34].all fun u => !Tryd.prog.wantsStandIn u) = true := by kernel_rfl
        exact (show Tryd.prog.wantsStandIn t = false by simpa using List.all_eq_true.1 hall t hm)⟩)
    (by kernel_rfl)
end Go.Proofs.YtebeckkkckijeaaDoor
