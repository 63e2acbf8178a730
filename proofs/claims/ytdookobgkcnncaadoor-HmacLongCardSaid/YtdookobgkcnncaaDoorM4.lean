/- errors.As at a wrong of package hmac, and at nil: walked. -/
import Derived.Test.YtdookobgkcnncaaDoorM3
namespace Go.Proofs.YtdookobgkcnncaaDoor.E
open Go Go.RowKit Go.Proofs Go.Extern
attribute [local irreducible] TK TL TQ TA Fn PV
/-- The handle of the type 'error' lies where it was laid. -/
def gErr (Γ : List HP) : Prop := has Γ (fun m => cellAt m 2 0 (rty 48))
set_option maxRecDepth 100000 in
set_option maxHeartbeats 1000000 in
theorem as2_t (t b1 e : Nat) (v1 : Value) (Γ : List HP) (hb : has (row t [v1] 67 :: Γ) (fun m => cellAt m b1 0 (.pointer (some ⟨t, 0, none⟩)))) :
    FnV Tryd.prog 48 [.iface 67 (.pointer (some ⟨e, 0, none⟩)), .iface 69 (.pointer (some ⟨t, 0, none⟩)), vv 69 b1 150, rty 67] (row t [v1] 67 :: Γ)
      fun v Γ' => v = .bool true ∧ Γ' = row t [.pointer (some ⟨e, 0, none⟩)] 67 :: Γ := by
  refine Fn.enter Tryd.func48 rfl rfl rfl fun E => ?_
  refine m_run ?_
  (apply TL.box; exact rfl; exact rfl; exact (rfl : _ = [_, _, _]))
  intro b6
  refine m_run ?_
  apply TK.iter (fun j ρ' Γ' => lk ρ' 0 = .iface 67 (.pointer (some ⟨e, 0, none⟩)) ∧ lk ρ' 3 = rty 67 ∧ lk ρ' 6 = .pointer (some ⟨b6, 0, none⟩) ∧ Γ' = row b6 [.pointer (some ⟨3, 69, none⟩), .pointer (some ⟨b1, 0, none⟩), .int .u64 150] 86 :: row t [v1] 67 :: Γ) 1
  · exact ⟨rfl, rfl, rfl, rfl⟩
  rintro j IH ρ' _ ⟨e0, e3, e6, rfl⟩
  refine TK.know3 e0 e3 e6 ?_
  refine m_run ?_
  (apply TL.pv; exact rfl; (apply PV.ext; exact (rfl : _ = [_]); exact fun w _ => x_typeOf67 _ w))
  refine m_run ?_
  (apply TL.pv; exact rfl; (apply PV.extM; exact rfl; exact (rfl : _ = [_]); exact m_assignable _; exact fun w _ => x_assignable67 w))
  refine m_run ?_
  (apply TL.pv; exact rfl; (apply PV.ext; exact (rfl : _ = [_]); exact fun w hw => x_elemV69 (hw.cell (has_tlc hb))))
  refine m_run ?_
  (apply TL.extA (v := fun b => vv 67 b 150) (l := [.pointer (some ⟨e, 0, none⟩)]) (e := 67); exact rfl; exact (rfl : _ = [_]); exact x_valueOf67 _)
  intro b7
  refine m_run ?_
  (apply TL.extS 2; exact rfl; exact rfl; exact (rfl : _ = [_, _]); exact fun w hw hp => x_set67 (hw.cell (has_row 0 rfl rfl)) hp; exact rfl)
  refine m_run ?_
  (apply TK.retS1; exact rfl; exact rfl; (exact m_val))
  · exact ⟨_, rfl, rfl, rfl⟩
  · (repeat (first | exact List.Sublist.refl _ | apply List.Sublist.cons_cons | apply List.Sublist.cons))
set_option maxRecDepth 100000 in
set_option maxHeartbeats 1000000 in
theorem as_t (t e : Nat) (Γ : List HP) (hE : gErr Γ) :
    FnV Tryd.prog 37 [.iface 67 (.pointer (some ⟨e, 0, none⟩)), .iface 69 (.pointer (some ⟨t, 0, none⟩))] (row t [.pointer none] 67 :: Γ)
      fun v Γ' => v = .bool true ∧ Γ' = row t [.pointer (some ⟨e, 0, none⟩)] 67 :: Γ := by
  refine Fn.enter Tryd.func37 rfl rfl rfl fun E => ?_
  refine m_run ?_
  (apply TL.pv; exact rfl; (apply PV.ifaceNil; exact rfl; exact tb rfl; exact rfl))
  refine m_run ?_
  (apply TL.pv; exact rfl; (apply PV.ifaceNil; exact rfl; exact tb rfl; exact rfl))
  refine m_run ?_
  (apply TL.extA (v := fun b => vv 69 b 150) (l := [.pointer (some ⟨t, 0, none⟩)]) (e := 69); exact rfl; exact (rfl : _ = [_]); exact x_valueOf69 _)
  intro b1
  refine m_run ?_
  (apply TL.alloc; exact rfl; exact tb rfl; exact (rfl : _ = [_, _, _]))
  intro b5
  refine m_run ?_
  (apply TL.pv; exact rfl; (apply PV.ext; exact (rfl : _ = [_]); exact fun w _ => x_type69 _ w))
  refine m_run ?_
  (apply TL.pv; exact rfl; (apply PV.extM; exact rfl; exact (rfl : _ = []); exact m_kind _; exact fun w _ => x_kind69 w))
  refine m_run ?_
  (apply TL.pv; exact rfl; (apply PV.ext; exact (rfl : _ = [_]); exact fun w hw => x_isNil69 (hw.cell (has_row 1 rfl rfl))))
  refine m_run ?_
  (apply TL.pv; exact rfl; (apply PV.extM; exact rfl; exact (rfl : _ = []); exact m_elem _; exact fun w _ => x_elem69 w))
  refine m_run ?_
  (apply TL.pv; exact rfl; (apply PV.extM; exact rfl; exact (rfl : _ = []); exact m_kind _; exact fun w _ => x_kind67 w))
  have hE2 : has (row b5 [.pointer (some ⟨3, 69, none⟩), .pointer (some ⟨b1, 0, none⟩), .int .u64 ((150 : Nat) : Int)] 86 :: row b1 [.pointer (some ⟨t, 0, none⟩)] 69 :: row t [.pointer none] 67 :: Γ) (fun m => cellAt m 2 0 (rty 48)) := has_tlc (has_tlc (has_tlc hE))
  refine m_run ?_
  trace_state
  (apply TL.pv; exact rfl; (apply PV.extM; exact rfl; exact (rfl : _ = [_]); exact m_implements _; exact fun w _ => x_implements67 w))
  refine m_run ?_
  (apply TL.callV (Δ := row t [.pointer none] 67 :: row b5 [.pointer (some ⟨3, 69, none⟩), .pointer (some ⟨b1, 0, none⟩), .int .u64 ((150 : Nat) : Int)] 86 :: row b1 [.pointer (some ⟨t, 0, none⟩)] 69 :: Γ); exact rfl; exact callB_of (by kernel_rfl); exact rfl; exact fun _ h => all_perm (List.Perm.append_right Γ (List.perm_append_comm (l₁ := [_, _]) (l₂ := [_]))) h)
  exact as2_t t b1 e _ _ (has_row 2 rfl rfl)
  rintro _ _ ⟨rfl, rfl⟩
  refine m_run ?_
  (apply TK.retS1; exact rfl; exact rfl; (exact m_val))
  · exact ⟨_, rfl, rfl, rfl⟩
  · (repeat (first | exact List.Sublist.refl _ | apply List.Sublist.cons_cons | apply List.Sublist.cons))
theorem as_nil_t (t : Value) (Γ : List HP) : FnV Tryd.prog 37 [.nilIface, t] Γ fun v Γ' => v = .bool false ∧ Γ' = Γ := by
  refine Fn.enter Tryd.func37 rfl rfl rfl fun E => ?_
  refine m_run ?_
  (apply TL.pv; exact rfl; (apply PV.nilNil; exact rfl; exact tb rfl; exact rfl))
  refine m_run ?_
  (apply TK.ret1; exact rfl; exact rfl; (exact m_val))
  exact ⟨_, rfl, rfl, rfl⟩
end Go.Proofs.YtdookobgkcnncaaDoor.E
