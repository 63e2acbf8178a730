/- MY OWN LAYER: functions that panic, function values that caught something, deferred calls. P is a variable. -/
import Derived.Test.YthbcfamfaicneaaSq
import Derived.Recover
namespace Go.Proofs.Ythbcfamfaicneaa.E
open Go Go.RowKit
section
variable {cx : Cx} {ops : Array Oper} {K : Act → World → Prop} {rest : List Oper} {ρ : Env} {ds : List Deferred} {Γ : List HP} {d : Nat} {ty : TypeId} {pos : String} {after : Array Edge} {k : List Item}
/-- What is claimed at the end of the function, of a world. -/
def Cx.post (cx : Cx) (e : Ending) (w : World) : Prop := ∃ Γ, cx.R e Γ ∧ Sat cx.E Γ w
/-- A panic is on its way, with these deferred calls. -/
def Pan (cx : Cx) (ρ : Env) (ds : List Deferred) (ch : List PanicEntry) (Γ : List HP) : Prop :=
  cx.rd = none ∧ ((ds = [] ∧ cx.R (.panicked ch) Γ) ∨ (cx.md = some none ∧ ∀ a w, Rp cx.n ρ ds a → Sat cx.E Γ w → Leaves cx.P cx.fn a.tmps cx.post ds (.panicking ch) w))
theorem Pan.none {ch : List PanicEntry} (hrd : cx.rd = none) (h : cx.R (.panicked ch) Γ) : Pan cx ρ [] ch Γ := ⟨hrd, .inl ⟨rfl, h⟩⟩
theorem pan_q {ch : List PanicEntry} (h : Pan cx ρ ds ch Γ) {a : Act} {w : World} (hr : Rp cx.n ρ ds a) (hs : Sat cx.E Γ w) : Qk cx K (.panic ch) a w := by
  have hd : a.defers = ds := hr.defers
  obtain ⟨h1, ⟨h2, h3⟩ | ⟨h2, h3⟩⟩ := h
  · exact ⟨h1, .inl ⟨hd.trans h2, Γ, h3, hs⟩⟩
  · refine ⟨h1, .inr ⟨h2, ?_⟩⟩
    rw [hd]
    exact h3 a w hr hs
/-- A call of a function that may panic. -/
theorem TL.callP {f : FuncId} {xs : List Operand} {vs : List Value} {ts : Array TypeId} {Δ : List HP} {R : Ending → List HP → Prop} (hd : Nat.blt d cx.n = true) (hc : Callable cx.P f) (ha : xs.map (ev ρ) = vs) (hΓ : ∀ m, all Γ m → all Δ m) (hf : Fn cx.P f vs Δ R)
    (hpan : ∀ ch Γ', R (.panicked ch) Γ' → Pan cx ρ ds ch Γ') (hout : ∀ Γ', ¬ R .outgrown Γ') (h : ∀ v Γ', R (.returned v) Γ' → TL cx ops K rest ((d, v) :: ρ) ds Γ') : TL cx ops K (⟨some d, .call ⟨.value (.func f), xs.toArray, ts⟩, ty, pos, after, none⟩ :: rest) ρ ds Γ := by
  intro a w hr hs
  obtain ⟨fn, h1, h2, h3⟩ := hc
  have hx : (execOp a.eval ⟨some d, .call ⟨.value (.func f), xs.toArray, ts⟩, ty, pos, after, none⟩).run cx.P w = .ok (.enter f vs.toArray) w := by
    rw [hr.ev, ← ha]
    have h2' : ¬ fn.name = "runtime.NumGoroutine" := by simpa using h2
    have h3' : ¬ fn.body = none := by intro h; rw [h] at h3; cases h3
    simp [execOp, resolve, ev, Deferred.ofValue, invoke, callFunc, h1, h2', h3', program, Sem.run]
  refine wpL_enter rfl hx (Calls.mono (hf cx.E w (hs.imp hΓ)) ?_)
  rintro e w' ⟨Γ', hR, hs'⟩
  cases e with
  | returned v => exact h v Γ' hR _ _ (hr.put d v hd) hs'
  | panicked ch => exact pan_q (hpan ch Γ' hR) hr hs'
  | outgrown => exact (hout Γ' hR).elim
/-- A function value is called: what it caught comes behind the arguments. -/
theorem TL.callF {f : FuncId} {x : Operand} {xs : List Operand} {fs cs vs : List Value} {ts : Array TypeId} {Δ : List HP} {R : Ending → List HP → Prop} (hd : Nat.blt d cx.n = true) (ea : ev ρ x = .func (.func f) fs.toArray cs.toArray) (hc : Callable cx.P f) (ha : fs ++ xs.map (ev ρ) ++ cs = vs) (hΓ : ∀ m, all Γ m → all Δ m) (hf : Fn cx.P f vs Δ R)
    (hpan : ∀ ch Γ', R (.panicked ch) Γ' → Pan cx ρ ds ch Γ') (hout : ∀ Γ', ¬ R .outgrown Γ') (h : ∀ v Γ', R (.returned v) Γ' → TL cx ops K rest ((d, v) :: ρ) ds Γ') : TL cx ops K (⟨some d, .call ⟨.value x, xs.toArray, ts⟩, ty, pos, after, none⟩ :: rest) ρ ds Γ := by
  intro a w hr hs
  obtain ⟨fn, h1, h2, h3⟩ := hc
  have hx : (execOp a.eval ⟨some d, .call ⟨.value x, xs.toArray, ts⟩, ty, pos, after, none⟩).run cx.P w = .ok (.enter f vs.toArray) w := by
    rw [hr.ev, ← ha]
    have h2' : ¬ fn.name = "runtime.NumGoroutine" := by simpa using h2
    have h3' : ¬ fn.body = none := by intro h; rw [h] at h3; cases h3
    simp [execOp, resolve, ea, Deferred.ofValue, invoke, callFunc, h1, h2', h3', program, Sem.run]
  refine wpL_enter rfl hx (Calls.mono (hf cx.E w (hs.imp hΓ)) ?_)
  rintro e w' ⟨Γ', hR, hs'⟩
  cases e with
  | returned v => exact h v Γ' hR _ _ (hr.put d v hd) hs'
  | panicked ch => exact pan_q (hpan ch Γ' hR) hr hs'
  | outgrown => exact (hout Γ' hR).elim
theorem TL.callFV {f : FuncId} {x : Operand} {xs : List Operand} {fs cs vs : List Value} {ts : Array TypeId} {Δ : List HP} {R : Value → List HP → Prop} (hd : Nat.blt d cx.n = true) (ea : ev ρ x = .func (.func f) fs.toArray cs.toArray) (hc : Callable cx.P f) (ha : fs ++ xs.map (ev ρ) ++ cs = vs) (hΓ : ∀ m, all Γ m → all Δ m) (hf : FnV cx.P f vs Δ R)
    (h : ∀ v Γ', R v Γ' → TL cx ops K rest ((d, v) :: ρ) ds Γ') : TL cx ops K (⟨some d, .call ⟨.value x, xs.toArray, ts⟩, ty, pos, after, none⟩ :: rest) ρ ds Γ :=
  .callF hd ea hc ha hΓ hf (fun _ _ ⟨_, h, _⟩ => by cases h) (fun _ ⟨_, h, _⟩ => by cases h) (fun v Γ' ⟨_, e, hR⟩ => by injection e with e; subst e; exact h v Γ' hR)
/-- The text's own panic. -/
theorem TL.panic {x : Operand} {t : TypeId} {v : Value} {D : Option Nat} (hmd : cx.md = none) (ea : ev ρ x = .iface t v) (h : Pan cx ρ ds [{ v := .iface t v, recovered := false }] Γ) : TL cx ops K (⟨D, .panic x, ty, pos, after, none⟩ :: rest) ρ ds Γ := by
  intro a w hr hs
  unfold wpL
  simp only [hmd]
  unfold wpList
  rw [if_pos (show Region.wanted _ (yielded ops a.tmps) = true from rfl)]
  left
  unfold Oper.wp
  have hx : (execOp a.eval ⟨D, .panic x, ty, pos, after, none⟩).run cx.P w = .halt (.panic (.iface t v)) w := by
    rw [hr.ev]
    simp only [execOp, ea, Sem.run_bind]
    rfl
  rw [hx]
  exact pan_q (K := K) h hr hs
/-- A call is deferred. -/
theorem TL.defer {f : FuncId} {x : Operand} {xs : List Operand} {fs cs vs : List Value} {ts : Array TypeId} (hmd : cx.md = some .none) (ea : ev ρ x = .func (.func f) fs.toArray cs.toArray) (ha : fs ++ xs.map (ev ρ) = vs) (h : TL cx ops K rest ρ (⟨.fn (.func f) cs.toArray, vs.toArray⟩ :: ds) Γ) :
    TL cx ops K (⟨.none, .defer ⟨.value x, xs.toArray, ts⟩, ty, pos, after, .none⟩ :: rest) ρ ds Γ := by
  intro a w hr hs
  unfold TL wpL at h
  unfold wpL
  simp only [hmd] at h ⊢
  unfold wpListIn
  rw [if_pos (show Region.wanted _ (yielded ops a.tmps) = true from rfl)]
  have hx : (execOp a.eval ⟨.none, .defer ⟨.value x, xs.toArray, ts⟩, ty, pos, after, .none⟩).run cx.P w = .ok (.defer ⟨.fn (.func f) cs.toArray, vs.toArray⟩) w := by
    rw [hr.ev, ← ha]
    simp [execOp, resolve, ea, Deferred.ofValue]
  have hrd : cx.F.round = .none := by
    show cx.rd = .none
    unfold Cx.rd
    rw [hmd]
  refine ⟨fun _ _ => trivial, ?_⟩
  rw [hrd]
  rw [Oper.semAt_none, hx]
  exact h _ w ⟨hr.size, hr.get, by rw [← hr.defers]; rfl⟩ hs
/-- The function returns, with deferred calls. -/
theorem TK.retD (hrd : cx.rd = none) (h : ∀ a w, Rp cx.n ρ ds a → Sat cx.E Γ w → Leaves cx.P cx.fn a.tmps cx.post ds .returning w) : TK cx (.code .ret :: k) ρ ds Γ := by
  intro a w hr hs cs
  have hl := h a w hr hs
  obtain ⟨e1, w1, fr, hR, hc, hf, hlv⟩ := leaves_steps ds .returning w { cx.b.atR a (.code .ret :: k) with mode := .returning } cs rfl hr.defers rfl cx.hfn rfl hl
  refine ⟨e1, w1, hR, ?_⟩
  unfold Out
  rw [hrd]
  exact ⟨fr, Comes.of_steps (Steps.one (stepR_ret hrd)) hc, hf, hlv⟩
end
/-- THE CONTRACT of a deferred call. -/
def FnD (P : Program) (f : FuncId) (args : List Value) (u : FrameMode) (Γ : List HP) (R : Ending → FrameMode → List HP → Prop) : Prop :=
  ∀ E w, Sat E Γ w → CallsD P f args.toArray u w fun e u' w' => ∃ Γ', R e u' Γ' ∧ Sat E Γ' w'
end Go.Proofs.Ythbcfamfaicneaa.E
