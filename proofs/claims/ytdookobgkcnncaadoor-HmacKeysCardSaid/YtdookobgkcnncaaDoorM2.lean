/- errors.Is at a wrong of package hmac: walked. -/
import Derived.Test.YtdookobgkcnncaaDoorM1
namespace Go.Proofs.YtdookobgkcnncaaDoor.E
open Go Go.RowKit Go.Proofs Go.Extern Go.Extern.Stop Go.Stop
attribute [local irreducible] TK TL TQ TA Fn PV
abbrev hnd (t : Nat) : Value := .agg #[.pointer (some ⟨3, t, none⟩)]
abbrev rty (t : Nat) : Value := .iface 94 (hnd t)
theorem x_typeOf36 (v : Value) (w : World) : (callFunc 43 #[.iface 36 v]).run Tryd.prog w = .ok (.value (rty 36)) w := by kernel_rfl
theorem x_typeOf67 (v : Value) (w : World) : (callFunc 43 #[.iface 67 v]).run Tryd.prog w = .ok (.value (rty 67)) w := by kernel_rfl
theorem x_comp36 (w : World) : (callFunc 76 #[hnd 36]).run Tryd.prog w = .ok (.value (.bool true)) w := by kernel_rfl
theorem m_comparable (u : Value) (w : World) : (Go.method (Tryd.prog.types.size + Made.depth) 94 u "Comparable").run Tryd.prog w = .ok (76, u) w := by kernel_rfl
theorem m_unwrap (u : Value) (w : World) : (Go.method (Tryd.prog.types.size + Made.depth) 67 u "Unwrap").run Tryd.prog w = .ok (70, u) w := by kernel_rfl
theorem no_is67 (v : Value) (xT : TypeId) (w : World) : (Instr.typeAssert (.iface 67 v) xT 96 true).run Tryd.prog w = .ok (.tuple #[.nilIface, .bool false]) w := run_typeAssert_lacksB Tryd.underlying96 (by kernel_rfl) (by kernel_rfl) v xT w
theorem no_is36 (v : Value) (xT : TypeId) (w : World) : (Instr.typeAssert (.iface 36 v) xT 96 true).run Tryd.prog w = .ok (.tuple #[.nilIface, .bool false]) w := run_typeAssert_lacksB Tryd.underlying96 (by kernel_rfl) (by kernel_rfl) v xT w
theorem unwrap67 (v : Value) (xT : TypeId) (w : World) : (Instr.typeAssert (.iface 67 v) xT 99 true).run Tryd.prog w = .ok (.tuple #[.iface 67 v, .bool true]) w := run_typeAssert_hasB Tryd.underlying99 (by kernel_rfl) v xT w
theorem no_unwrap36 (v : Value) (xT : TypeId) (w : World) : (Instr.typeAssert (.iface 36 v) xT 99 true).run Tryd.prog w = .ok (.tuple #[.nilIface, .bool false]) w := run_typeAssert_lacksB Tryd.underlying99 (by kernel_rfl) (by kernel_rfl) v xT w
theorem no_unwraps36 (v : Value) (xT : TypeId) (w : World) : (Instr.typeAssert (.iface 36 v) xT 101 true).run Tryd.prog w = .ok (.tuple #[.nilIface, .bool false]) w := run_typeAssert_lacksB Tryd.underlying101 (by kernel_rfl) (by kernel_rfl) v xT w
theorem eq_36 (k n : Int) (w : World) : (binOp .eql 48 (.iface 36 (.int .i64 k)) (.iface 36 (.int .i64 n))).run Tryd.prog w = .ok (.bool (k == n)) w := Lib.run_eql_iface_int w k n Tryd.underlying48 (by kernel_rfl) (q := .i64) (by kernel_rfl)
theorem eq_67 (v v' : Value) (w : World) : (binOp .eql 48 (.iface 67 v) (.iface 36 v')).run Tryd.prog w = .ok (.bool false) w := run_eql_iface_types _ _ v v' Tryd.underlying48 (by decide) w
set_option maxRecDepth 100000 in
theorem unwrap_t (b : Nat) (k : Int) (Γ : List HP) (hk : has Γ (fun m => cellAt m b 1 (.int .i64 k))) :
    FnV Tryd.prog 70 [.pointer (some ⟨b, 0, none⟩)] Γ fun v Γ' => v = .iface 36 (.int .i64 k) ∧ Γ' = Γ := by
  refine Fn.enter Tryd.func70 rfl rfl rfl fun E => ?_
  refine m_run ?_
  (apply TL.pv; exact rfl; (apply PV.iface; exact rfl; exact tb rfl; exact rfl))
  refine m_run ?_
  (apply TK.ret1; exact rfl; exact rfl; exact rfl)
  exact ⟨_, rfl, rfl, rfl⟩
set_option maxRecDepth 100000 in
set_option maxHeartbeats 1000000 in
theorem is2_t (b : Nat) (k n : Int) (Γ : List HP) (hk : has Γ (fun m => cellAt m b 1 (.int .i64 k))) :
    FnV Tryd.prog 44 [.iface 67 (.pointer (some ⟨b, 0, none⟩)), .iface 36 (.int .i64 n), .bool true] Γ fun v Γ' => v = .bool (k == n) ∧ Γ' = Γ := by
  refine Fn.enter Tryd.func44 rfl rfl rfl fun E => ?_
  refine m_run ?_
  apply TK.iter (fun j ρ' Γ' => lk ρ' 1 = .iface 36 (.int .i64 n) ∧ lk ρ' 2 = .bool true ∧ ((j = 1 ∧ lk ρ' 0 = .iface 67 (.pointer (some ⟨b, 0, none⟩))) ∨ (j = 0 ∧ lk ρ' 0 = .iface 36 (.int .i64 k))) ∧ Γ' = Γ) 1
  · exact ⟨rfl, rfl, .inl ⟨rfl, rfl⟩, rfl⟩
  rintro j IH ρ' _ ⟨e1, e2, h0, rfl⟩
  refine TK.know2 e1 e2 ?_
  rcases h0 with ⟨rfl, e0⟩ | ⟨rfl, e0⟩
  · refine TK.know (t := 0) e0 ?_
    refine m_run ?_
    (apply TL.pv; exact rfl; (apply PV.eqIface; exact rfl; exact rfl; exact eq_67 _ _))
    refine m_run ?_
    (apply TL.pv; exact rfl; (apply PV.assertOk; exact rfl; exact no_is67 _ _))
    refine m_run ?_
    (apply TL.pv; exact rfl; (apply PV.assertOk; exact rfl; exact unwrap67 _ _))
    refine m_run ?_
    (apply TL.callM (f := 70); exact rfl; exact callB_of (by kernel_rfl); exact rfl; exact (rfl : _ = []); exact m_unwrap _; exact fun _ h => h)
    exact unwrap_t b k _ hk
    rintro _ _ ⟨rfl, rfl⟩
    refine m_run ?_
    (apply TL.pv; exact rfl; (apply PV.ifaceNil; exact rfl; exact tb rfl; exact rfl))
    refine m_run ?_
    exact IH 0 _ _ (by omega) ⟨rfl, rfl, .inr ⟨rfl, rfl⟩, rfl⟩
  · refine TK.know (t := 0) e0 ?_
    refine m_run ?_
    (apply TL.pv; exact rfl; (apply PV.eqIface; exact rfl; exact rfl; exact eq_36 _ _))
    cases hkn : k == n with
    | true =>
      refine m_run ?_
      (apply TK.ret1; exact rfl; exact rfl; (exact m_val))
      exact ⟨_, rfl, rfl, rfl⟩
    | false =>
      refine m_run ?_
      (apply TL.pv; exact rfl; (apply PV.assertOk; exact rfl; exact no_is36 _ _))
      refine m_run ?_
      (apply TL.pv; exact rfl; (apply PV.assertOk; exact rfl; exact no_unwrap36 _ _))
      refine m_run ?_
      (apply TL.pv; exact rfl; (apply PV.assertOk; exact rfl; exact no_unwraps36 _ _))
      refine m_run ?_
      (apply TK.ret1; exact rfl; exact rfl; (exact m_val))
      exact ⟨_, rfl, rfl, rfl⟩
set_option maxRecDepth 100000 in
set_option maxHeartbeats 1000000 in
theorem is_t (b : Nat) (k n : Int) (Γ : List HP) (hk : has Γ (fun m => cellAt m b 1 (.int .i64 k))) :
    FnV Tryd.prog 32 [.iface 67 (.pointer (some ⟨b, 0, none⟩)), .iface 36 (.int .i64 n)] Γ fun v Γ' => v = .bool (k == n) ∧ Γ' = Γ := by
  refine Fn.enter Tryd.func32 rfl rfl rfl fun E => ?_
  refine m_run ?_
  (apply TL.pv; exact rfl; (apply PV.ifaceNil; exact rfl; exact tb rfl; exact rfl))
  refine m_run ?_
  (apply TL.pv; exact rfl; (apply PV.ifaceNil; exact rfl; exact tb rfl; exact rfl))
  refine m_run ?_
  (apply TL.pv; exact rfl; (apply PV.ext; exact (rfl : _ = [_]); exact fun w _ => x_typeOf36 _ w))
  (apply TL.pv; exact rfl; (apply PV.extM; exact rfl; exact (rfl : _ = []); exact m_comparable _; exact fun w _ => x_comp36 w))
  refine m_run ?_
  (apply TL.callV; exact rfl; exact callB_of (by kernel_rfl); exact rfl; exact fun _ h => h)
  exact is2_t b k n _ hk
  rintro _ _ ⟨rfl, rfl⟩
  refine m_run ?_
  (apply TK.ret1; exact rfl; exact rfl; (exact m_val))
  exact ⟨_, rfl, rfl, rfl⟩
end Go.Proofs.YtdookobgkcnncaaDoor.E
