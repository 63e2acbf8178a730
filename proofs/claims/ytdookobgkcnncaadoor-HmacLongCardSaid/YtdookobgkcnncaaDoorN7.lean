/- HmacLong, whatever is handed in: it answers true, and what was handed in reads as it did: the row, and its card. -/
import Derived.Test.YtdookobgkcnncaaDoorN5
import Derived.Test.YtdookobgkcnncaaDoorI3
import Derived.Test.YtdookobgkcnncaaDoorK3
namespace Go.Proofs.YtdookobgkcnncaaDoor.E
open Go Go.RowKit
theorem reads_bytess3 : Reads Tryd.prog 22 (rSl (rSl rByte)) := reads_sl reads_bytes (tb rfl) rfl rfl
end Go.Proofs.YtdookobgkcnncaaDoor.E
namespace Go.Proofs.YtdookobgkcnncaaDoor
open Go.ChangeShapes Go.WideShapes Go.ChangeAt Go.WideMaps Go.WideElems Go.RowKit E
set_option maxRecDepth 100000 in
theorem hmacLong_lifted (os : Os) (started : os.Started) (H : Type) (enc : TypeId × Value → H) :
    ReturnsInHanded {} Tryd.checked os 9 .any (fun w args => (Rows.hmacLongSpec.pre enc Tryd.prog Tryd.f9 [] false w args ∧ laidMetH Tryd.prog laidE w) ∧ sizedMet enc Tryd.prog Tryd.f9 (OpenSpec.ofChange Rows.hmacLongSpec) false w args) (Rows.hmacLongSpec.post enc Tryd.prog Tryd.f9 false true false false) := by
  refine returnsInHanded_of_change_and (C := Tryd.checked) (X := fun w _ => laidMetH Tryd.prog laidE w) (fun _ _ _ hh h => h.of_heap hh) Tryd.own started (by kernel_rfl) Tryd.func9
    (ChangeSpec.witness_shaped (enc := enc) (C := Tryd.checked) (os := os) (X := fun w _ => laidMetH Tryd.prog laidE w) false (World.doorLaid Tryd.prog 400 os) #[.slice none 0 0, .slice none 0 0] 8 rfl (World.shaped_of_RefB (by kernel_rfl) (by kernel_rfl)) (by kernel_rfl) (by kernel_rfl) (by kernel_rfl) (door_metE os _)) ?_
  intro W base args ds gs before hval0 hW _ hz hL _
  obtain ⟨hB, hK, hE⟩ := of_laidE hL
  refine law_contract (C := Tryd.checked) Tryd.laidOut rfl (tb rfl : TabOk Tryd.prog 4 _).1 rfl (by kernel_rfl) (fun H ds hd => ?_) enc W args ds gs before hW ?_
  · match ds, hd with
    | [_, _], _ => rfl
  have hval : ∀ (j : Nat) t v, Tryd.f9.params[j]? = some t → args[j]? = some v → Value.okWide Tryd.prog W .any base t v := hval0
  obtain ⟨p, q, hA0, hV, rfl, hfz, hnd⟩ := hW
  have hA : DataW.TrodAll enc Tryd.prog W 0 (fun _ => true) true Tryd.f9.params.toList args.toList ds p := hA0
  rw [Tryd.params9] at hA hval
  obtain ⟨args, rfl⟩ : ∃ l : List Value, args = l.toArray := ⟨args.toList, by simp⟩
  obtain ⟨v0, vs0, d0, ds0, p0, q0, hv0, rfl, rfl, h0, hA1⟩ := trodAll_cons hA
  obtain ⟨v1, vs1, d1, ds1, p1, q1, hv1, rfl, rfl, h1, hA2⟩ := trodAll_cons hA1
  obtain ⟨hvn, rfl, rfl⟩ := trodAll_nil hA2
  have hargs : args = [v0, v1] := by rw [show args = _ from hv0, hv1, hvn]
  subst hargs
  obtain ⟨k, hk, hk2⟩ := open_cell reads_bytes (tb rfl) rfl (hval 0 30 v0 rfl rfl) h0
  obtain ⟨a, ha, ha2⟩ := open_cell reads_bytess3 (tb rfl) rfl (hval 1 22 v1 rfl rfl) h1
  injection hk with hk _
  injection ha with ha _
  subst hk
  subst ha
  have l1 := inner_len (tb rfl : TabOk Tryd.prog 22 _) rfl (tb rfl : TabOk Tryd.prog 30 _) rfl rfl (by kernel_rfl) ha2 h1 hz (j := 1) rfl rfl
  exact long_t k.A a.A k.c a.c k.l a.l _ (bytes_src hk2) hk2.1 (slss_src ha2) (fun s hs => bytes_src (ha2.2.2.2 s hs)) (fun s hs => (ha2.2.2.2 s hs).1) l1 hB hK hE
theorem hmacLong_said : Rows.HmacLongSaid :=
  OpenClaim.holds_of_wide 9 Tryd.f9 rfl rfl rfl rfl rfl rfl rfl ⟨rfl, rfl, rfl, rfl, rfl⟩ rfl rfl rfl rfl rfl (by kernel_rfl) Tryd.func9 (by kernel_rfl)
    (of_decide_eq_true (by kernel_rfl)) (by unfold Func.isWrapper; rw [if_neg (by decide +kernel)]; exact ⟨rfl, rfl⟩)
    (fun os started H enc _ => hmacLong_lifted os started H enc)
theorem hmacLong_holds : Rows.HmacLongCardSaid :=
  Claim7.holds_tied_plain_at .later [] [.handle, .data, .data] true (true, "33cb01f464bc56839d1140f7db4331bb1b27234b134f393308419f21d9ce6518") true
    hmacLong_said (fun _ h => by cases h) (by kernel_rfl) (fun _ h => by cases h) hmacLong_row_tie rfl ⟨rfl, rfl⟩ (by kernel_rfl) rfl
    (fun f fn hf hfn => by
      obtain rfl : f = 9 := Option.some.inj ((show Tryd.prog.funcNamed "bailey/baileylaw03.HmacLong" = some 9 by kernel_rfl).symm.trans hf) |>.symm
      obtain rfl : fn = Tryd.f9 := (Option.some.inj (Tryd.func9.symm.trans hfn)).symm
      exact ⟨by kernel_rfl, fun j t ht => by
        rw [Tryd.params9] at ht
        have hm : t ∈ [30, 22] := by simpa using Array.mem_of_getElem? ht
        have hall : ([30, 22].all fun u => !Tryd.prog.wantsStandIn u) = true := by kernel_rfl
        exact (show Tryd.prog.wantsStandIn t = false by simpa using List.all_eq_true.1 hall t hm)⟩)
    (by kernel_rfl)
end Go.Proofs.YtdookobgkcnncaaDoor
