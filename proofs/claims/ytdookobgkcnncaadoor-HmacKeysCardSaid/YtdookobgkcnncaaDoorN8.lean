/- HmacKeys, whatever is handed in: it answers true, and what was handed in reads as it did: the row, and its card. -/
import Derived.Test.YtdookobgkcnncaaDoorN6
import Derived.Test.YtdookobgkcnncaaDoorI3
namespace Go.Proofs.YtdookobgkcnncaaDoor
open Go.ChangeShapes Go.WideShapes Go.ChangeAt Go.WideMaps Go.WideElems Go.RowKit E
set_option maxRecDepth 100000 in
theorem hmacKeys_lifted (os : Os) (started : os.Started) (H : Type) (enc : TypeId × Value → H) :
    ReturnsInHanded {} Tryd.checked os 8 .any (fun w args => (Rows.hmacKeysSpec.pre enc Tryd.prog Tryd.f8 [] false w args ∧ laidMetH Tryd.prog laidE w) ∧ sizedMet enc Tryd.prog Tryd.f8 (OpenSpec.ofChange Rows.hmacKeysSpec) false w args) (Rows.hmacKeysSpec.post enc Tryd.prog Tryd.f8 false true false false) := by
  refine returnsInHanded_of_change_and (C := Tryd.checked) (X := fun w _ => laidMetH Tryd.prog laidE w) (fun _ _ _ hh h => h.of_heap hh) Tryd.own started (by kernel_rfl) Tryd.func8
    (ChangeSpec.witness_shaped (enc := enc) (C := Tryd.checked) (os := os) (X := fun w _ => laidMetH Tryd.prog laidE w) false (World.doorLaid Tryd.prog 400 os) #[.slice none 0 0, .slice none 0 0, .int .u8 0, .int .u16 0] 8 rfl (World.shaped_of_RefB (by kernel_rfl) (by kernel_rfl)) (by kernel_rfl) (by kernel_rfl) (by kernel_rfl) (door_metE os _)) ?_
  intro W base args ds gs before hval0 hW _ hz hL _
  obtain ⟨hB, hK, hE⟩ := of_laidE hL
  refine law_contract (C := Tryd.checked) Tryd.laidOut rfl (tb rfl : TabOk Tryd.prog 4 _).1 rfl (by kernel_rfl) (fun H ds hd => ?_) enc W args ds gs before hW ?_
  · match ds, hd with
    | [_, _, _, _], _ => rfl
  have hval : ∀ (j : Nat) t v, Tryd.f8.params[j]? = some t → args[j]? = some v → Value.okWide Tryd.prog W .any base t v := hval0
  obtain ⟨p, q, hA0, hV, rfl, hfz, hnd⟩ := hW
  have hA : DataW.TrodAll enc Tryd.prog W 0 (fun _ => true) true Tryd.f8.params.toList args.toList ds p := hA0
  rw [Tryd.params8] at hA hval
  obtain ⟨args, rfl⟩ : ∃ l : List Value, args = l.toArray := ⟨args.toList, by simp⟩
  obtain ⟨v0, vs0, d0, ds0, p0, q0, hv0, rfl, rfl, h0, hA1⟩ := trodAll_cons hA
  obtain ⟨v1, vs1, d1, ds1, p1, q1, hv1, rfl, rfl, h1, hA2⟩ := trodAll_cons hA1
  obtain ⟨v2, vs2, d2, ds2, p2, q2, hv2, rfl, rfl, h2, hA3⟩ := trodAll_cons hA2
  obtain ⟨v3, vs3, d3, ds3, p3, q3, hv3, rfl, rfl, h3, hA4⟩ := trodAll_cons hA3
  obtain ⟨hvn, rfl, rfl⟩ := trodAll_nil hA4
  have hargs : args = [v0, v1, v2, v3] := by rw [show args = _ from hv0, hv1, hv2, hv3, hvn]
  subst hargs
  obtain ⟨k, hk, hk2⟩ := open_cell reads_bytes (tb rfl) rfl (hval 0 30 v0 rfl rfl) h0
  obtain ⟨a, ha, ha2⟩ := open_cell reads_bytes (tb rfl) rfl (hval 1 30 v1 rfl rfl) h1
  obtain ⟨m, hm, hm2⟩ := open_cell (reads_byte (tb rfl : TabOk Tryd.prog 5 _) rfl rfl) (tb rfl) rfl (hval 2 5 v2 rfl rfl) h2
  obtain ⟨n, hn, hn2⟩ := open_cell (reads_nat (q := .u16) (m := 65535) (tb rfl : TabOk Tryd.prog 38 _) rfl rfl rfl rfl) (tb rfl) rfl (hval 3 38 v3 rfl rfl) h3
  injection hk with hk _
  injection ha with ha _
  injection hm with hm _
  injection hn with hn _
  subst hk
  subst ha
  subst hm
  subst hn
  exact keys_t k.A a.A k.c a.c m.toNat n k.l a.l _ (bytes_src hk2) hk2.1 (bytes_src ha2) ha2.1 (UInt8.toNat_lt m) (Nat.lt_succ_of_le hn2) hB hK hE
theorem hmacKeys_said : Rows.HmacKeysSaid :=
  OpenClaim.holds_of_wide 8 Tryd.f8 rfl rfl rfl rfl rfl rfl rfl ⟨rfl, rfl, rfl, rfl, rfl⟩ rfl rfl rfl rfl rfl (by kernel_rfl) Tryd.func8 (by kernel_rfl)
    (of_decide_eq_true (by kernel_rfl)) (by unfold Func.isWrapper; rw [if_neg (by decide +kernel)]; exact ⟨rfl, rfl⟩)
    (fun os started H enc _ => hmacKeys_lifted os started H enc)
theorem hmacKeys_holds : Rows.HmacKeysCardSaid :=
  Claim7.holds_tied_plain_at .later [] [.handle, .data, .data] true (true, "33cb01f464bc56839d1140f7db4331bb1b27234b134f393308419f21d9ce6518") true
    hmacKeys_said (fun _ h => by cases h) (by kernel_rfl) (fun _ h => by cases h) hmacKeys_row_tie rfl ⟨rfl, rfl⟩ (by kernel_rfl) rfl
    (fun f fn hf hfn => by
      obtain rfl : f = 8 := Option.some.inj ((show Tryd.prog.funcNamed "bailey/baileylaw03.HmacKeys" = some 8 by kernel_rfl).symm.trans hf) |>.symm
      obtain rfl : fn = Tryd.f8 := (Option.some.inj (Tryd.func8.symm.trans hfn)).symm
      exact ⟨by kernel_rfl, fun j t ht => by
        rw [Tryd.params8] at ht
        have hm : t ∈ [30, 30, 5, 38] := by simpa using Array.mem_of_getElem? ht
        have hall : ([30, 30, 5, 38].all fun u => !Tryd.prog.wantsStandIn u) = true := by kernel_rfl
        exact (show Tryd.prog.wantsStandIn t = false by simpa using List.all_eq_true.1 hall t hm)⟩)
    (by kernel_rfl)
end Go.Proofs.YtdookobgkcnncaaDoor
