/- MY OWN LAYER: interface values, methods called on them, functions that the model stands in for; errors.Is and errors.As at a wrong of package hmac. -/
import Derived.Test.YtebeckkkckijeaaDoorSm
import Derived.Laws.Externs
import Derived.Stop.Asserts
import Derived.Lib.IfaceEq
namespace Go.Proofs.YtebeckkkckijeaaDoor.E
open Go Go.RowKit Go.Proofs Go.Extern
section
variable {P : Program} {S : World → Prop} {ρ : Env} {d : Nat} {ty : TypeId} {pos : String} {after : Array Edge}
theorem PV.iface {t : TypeId} {x : Operand} {v : Value} {r : TR} (ea : ev ρ x = v) (ht : TabOk P t r) (hq : (match r.und with | .interface _ => false | _ => true) = true) : PV P ρ S ⟨some d, .makeInterface t x, ty, pos, after, none⟩ (.iface t v) := fun w _ => by
  have h2 : (Instr.makeInterface t v).run P w = .ok (.iface t v) w := by
    unfold Instr.makeInterface
    simp only [Sem.run_bind, ht.run_und, Result.andThen_ok]
    revert hq
    cases r.und <;> intro hq <;> first | rfl | cases hq
  simp [execOp, ea, h2]
theorem PV.ifaceNil {t t' tx : TypeId} {x : Operand} {v : Value} {r : TR} {ms : Array (String × TypeId)} (ea : ev ρ x = .iface tx v) (ht : TabOk P t r) (hq : r.und = .interface ms) : PV P ρ S ⟨some d, .binOp .eql t x (.const .nilIface) t', ty, pos, after, none⟩ (.bool false) := fun w _ => by simp [execOp, ea, ev_const, eqGuard, binOp, run_eql_iface ht hq]
theorem PV.nilNil {t t' : TypeId} {x : Operand} {r : TR} {ms : Array (String × TypeId)} (ea : ev ρ x = .nilIface) (ht : TabOk P t r) (hq : r.und = .interface ms) : PV P ρ S ⟨some d, .binOp .eql t x (.const .nilIface) t', ty, pos, after, none⟩ (.bool true) := fun w _ => by simp [execOp, ea, ev_const, eqGuard, binOp, run_eql_iface_nil ht hq]
theorem PV.ifaceNilN {t t' tx : TypeId} {x : Operand} {v : Value} {r : TR} {ms : Array (String × TypeId)} (ea : ev ρ x = .iface tx v) (ht : TabOk P t r) (hq : r.und = .interface ms) : PV P ρ S ⟨some d, .binOp .neq t x (.const .nilIface) t', ty, pos, after, none⟩ (.bool true) := fun w _ => by simp [execOp, ea, ev_const, eqGuard, binOp, run_eql_iface ht hq]
theorem PV.nilNilN {t t' : TypeId} {x : Operand} {r : TR} {ms : Array (String × TypeId)} (ea : ev ρ x = .nilIface) (ht : TabOk P t r) (hq : r.und = .interface ms) : PV P ρ S ⟨some d, .binOp .neq t x (.const .nilIface) t', ty, pos, after, none⟩ (.bool false) := fun w _ => by simp [execOp, ea, ev_const, eqGuard, binOp, run_eql_iface_nil ht hq]
/-- Two values of interface type: what 'binOp' says of them. -/
theorem PV.eqIface {t t' tx tx' : TypeId} {x y : Operand} {v v' : Value} {c : Bool} (ea : ev ρ x = .iface tx v) (eb : ev ρ y = .iface tx' v') (h : ∀ w, (binOp .eql t (.iface tx v) (.iface tx' v')).run P w = .ok (.bool c) w) : PV P ρ S ⟨some d, .binOp .eql t x y t', ty, pos, after, none⟩ (.bool c) := fun w _ => by simp [execOp, ea, eb, eqGuard, h]
theorem PV.assertOk {x : Operand} {xT T : TypeId} {v u : Value} (ea : ev ρ x = v) (h : ∀ w, (Instr.typeAssert v xT T true).run P w = .ok u w) : PV P ρ S ⟨some d, .typeAssert x xT T true, ty, pos, after, none⟩ u := fun w _ => by simp [execOp, ea, h]
/-- A function that the model stands in for, which reads. -/
theorem PV.ext {f : FuncId} {xs : List Operand} {vs : List Value} {ts : Array TypeId} {v : Value} (ha : xs.map (ev ρ) = vs) (h : ∀ w, S w → (callFunc f vs.toArray).run P w = .ok (.value v) w) : PV P ρ S ⟨some d, .call ⟨.value (.func f), xs.toArray, ts⟩, ty, pos, after, none⟩ v := fun w hw => by
  rw [← ha] at h
  have := h w hw
  simp [execOp, resolve, ev, Deferred.ofValue, invoke] at this ⊢
  exact this
theorem run_inv {t : TypeId} {u u' : Value} {f : FuncId} {name : String} {c : Array Value} {w : World} (vs : List Value) (hm : (Go.method (P.types.size + Made.depth) t u name).run P w = .ok (f, u') w) :
    (invoke (.fn (.method name) c) (#[.iface t u] ++ vs.toArray)).run P w = (callFunc f (u' :: vs).toArray).run P w := by
  have e1 : (#[Value.iface t u] ++ vs.toArray : Array Value) = (Value.iface t u :: vs).toArray := by simp
  have e2 : ((Value.iface t u :: vs).toArray).extract 1 (Value.iface t u :: vs).toArray.size = vs.toArray := by simp
  have e3 : ((Value.iface t u :: vs).toArray)[0]? = some (Value.iface t u) := by simp
  have e4 : (#[u'] ++ vs.toArray : Array Value) = (u' :: vs).toArray := by simp
  have hp : (program).run P w = .ok P w := rfl
  rw [e1]
  simp only [invoke, e3, e2, callMethod, Sem.run_bind, hp, Result.andThen_ok, hm, e4]
/-- A method of an interface value that the model stands in for. -/
theorem PV.extM {f : FuncId} {name : String} {x : Operand} {xs : List Operand} {vs : List Value} {ts : Array TypeId} {t : TypeId} {u u' v : Value} (ea : ev ρ x = .iface t u) (ha : xs.map (ev ρ) = vs) (hm : ∀ w, (Go.method (P.types.size + Made.depth) t u name).run P w = .ok (f, u') w)
    (h : ∀ w, S w → (callFunc f (u' :: vs).toArray).run P w = .ok (.value v) w) : PV P ρ S ⟨some d, .call ⟨.invoke x name, xs.toArray, ts⟩, ty, pos, after, none⟩ v := fun w hw => by
  subst ha
  have := run_inv (P := P) (c := #[]) (xs.map (ev ρ)) (hm w)
  simp only [execOp, resolve, ea, Sem.run_bind, Sem.run_pure, Result.andThen_ok, List.map_toArray]
  exact this.trans (h w hw)
end
section
variable {cx : Cx} {ops : Array Oper} {K : Act → World → Prop} {rest : List Oper} {ρ : Env} {ds : List Deferred} {Γ : List HP} {d : Nat} {ty : TypeId} {pos : String} {after : Array Edge}
/-- A method of an interface value, by its contract. -/
theorem TL.callM {f : FuncId} {name : String} {x : Operand} {xs : List Operand} {vs : List Value} {ts : Array TypeId} {t : TypeId} {u u' : Value} {Δ : List HP} {R : Value → List HP → Prop} (hd : Nat.blt d cx.n = true) (hc : Callable cx.P f) (ea : ev ρ x = .iface t u) (ha : xs.map (ev ρ) = vs)
    (hm : ∀ w, (Go.method (cx.P.types.size + Made.depth) t u name).run cx.P w = .ok (f, u') w) (hΓ : ∀ m, all Γ m → all Δ m) (hf : FnV cx.P f (u' :: vs) Δ R)
    (h : ∀ v Γ', R v Γ' → TL cx ops K rest ((d, v) :: ρ) ds Γ') : TL cx ops K (⟨some d, .call ⟨.invoke x name, xs.toArray, ts⟩, ty, pos, after, none⟩ :: rest) ρ ds Γ := by
  intro a w hr hs
  obtain ⟨fn, h1, h2, h3⟩ := hc
  have hx : (execOp a.eval ⟨some d, .call ⟨.invoke x name, xs.toArray, ts⟩, ty, pos, after, none⟩).run cx.P w = .ok (.enter f (u' :: vs).toArray) w := by
    rw [hr.ev, ← ha]
    have h2' : ¬ fn.name = "runtime.NumGoroutine" := by simpa using h2
    have h3' : ¬ fn.body = none := by intro h; rw [h] at h3; cases h3
    have := run_inv (P := cx.P) (c := #[]) (xs.map (ev ρ)) (hm w)
    simp only [execOp, resolve, ea, Sem.run_bind, Sem.run_pure, Result.andThen_ok, List.map_toArray]
    refine this.trans ?_
    simp [callFunc, h1, h2', h3', program, Sem.run]
  refine wpL_enter rfl hx (Calls.mono (hf cx.E w (hs.imp hΓ)) ?_)
  rintro e w' ⟨Γ', ⟨v, rfl, hR⟩, hs'⟩
  exact h v Γ' hR _ _ (hr.put d v hd) hs'
/-- A function that the model stands in for, which makes a row of its own. -/
theorem TL.extA {f : FuncId} {xs : List Operand} {vs : List Value} {ts : Array TypeId} {v : Nat → Value} {l : List Value} {e : TypeId} (hd : Nat.blt d cx.n = true) (ha : xs.map (ev ρ) = vs) (hx : ∀ w, (callFunc f vs.toArray).run cx.P w = .ok (.value (v w.heap.size)) (w.alloc (.cells l.toArray e)))
    (h : ∀ b, TL cx ops K rest ((d, v b) :: ρ) ds (row b l e :: Γ)) : TL cx ops K (⟨some d, .call ⟨.value (.func f), xs.toArray, ts⟩, ty, pos, after, none⟩ :: rest) ρ ds Γ :=
  .act (X := Nat) (φ := fun _ => True) (v := v) (Δ := fun b => row b l e :: Γ) hd (fun w hs => ⟨w.heap.size, _, trivial, hs.alloc (.cells l.toArray e), by
    rw [← ha] at hx
    have := hx w
    simp [execOp, resolve, ev, Deferred.ofValue, invoke] at this ⊢
    exact this⟩) (fun b _ => h b)
/-- A function that the model stands in for, which stores one value. -/
theorem TL.extS {f : FuncId} {xs : List Operand} {vs : List Value} {ts : Array TypeId} {b : Nat} {old new v : Value} {e : TypeId} {Δ : List HP} (i : Nat) (hi : Γ[i]? = some (row b [old] e)) (hd : Nat.blt d cx.n = true) (ha : xs.map (ev ρ) = vs)
    (hx : ∀ w, Sat cx.E Γ w → w.heap[b]? = some (.cells #[old] e (0, 0)) → (callFunc f vs.toArray).run cx.P w = .ok (.value v) (w.setRow b #[new])) (hΔ : Γ.set i (row b [new] e) = Δ)
    (h : TL cx ops K rest ((d, v) :: ρ) ds Δ) : TL cx ops K (⟨some d, .call ⟨.value (.func f), xs.toArray, ts⟩, ty, pos, after, none⟩ :: rest) ρ ds Γ := by
  subst hΔ
  exact .act (X := Unit) (φ := fun _ => True) (v := fun _ => v) (Δ := fun _ => Γ.set i (row b [new] e)) hd (fun w hs => ⟨(), _, trivial, by
    have hb := hs.block hi
    exact hs.put (w' := w.setRow b #[new]) hi rfl rfl rfl (setRow_heap w b _ _ e _ hb) (fun k hk q hq => (setRow_other w b _ k hk).trans hq), by
    rw [← ha] at hx
    have := hx w hs (hs.block hi)
    simp [execOp, resolve, ev, Deferred.ofValue, invoke] at this ⊢
    exact this⟩) (fun _ _ => h)
end
end Go.Proofs.YtebeckkkckijeaaDoor.E
