/- MY OWN LAYER, SECOND PART: the judgement on code, and its rules for the machine's own steps. P is a variable. -/
import Derived.Test.YthbcfamfaicneaaSl
import Derived.AtR
import Derived.CallsIn
import Derived.TacticsIn
import Derived.Defers
namespace Go.Proofs.Ythbcfamfaicneaa.E
open Go Go.RowKit

/-- What stays the same through a function's body: the program, the outside world of the call, how many temporaries, which function, what is claimed. -/
structure Cx where
  P : Program
  E : World
  n : Nat
  f : FuncId
  R : Ending → List HP → Prop
  fn : Func
  hfn : P.funcs[f]? = some fn
  md : Option (Option Nat)

/-- The round (of a range over a function) in which the code stands. -/
def Cx.rd (cx : Cx) : Option Nat := match cx.md with | none => none | some r => r
def Cx.F (cx : Cx) : Fence := { Fence.wide with round := cx.rd }
def Cx.b (cx : Cx) : Frame := { fn := cx.f, tmps := #[], todo := [], defers := [], mode := .run, kind := .normal, roundOf := cx.rd }
theorem Cx.at (cx : Cx) (h : cx.rd = none) (a : Act) (k : List Item) : cx.b.atR a k = cx.b.at a k := Frame.atR_of_none h a k
theorem Cx.rd_of {cx : Cx} (h : cx.md = none) : cx.rd = none := by unfold Cx.rd; rw [h]
/-- The temporaries, read as pairs. -/
structure Rp (n : Nat) (ρ : Env) (ds : List Deferred) (a : Act) : Prop where
  size : a.tmps.size = n
  get : ∀ t, a.tmps.getD t undef = lk ρ t
  defers : a.defers = ds
theorem Rp.ev {n : Nat} {ρ : Env} {ds : List Deferred} {a : Act} (h : Rp n ρ ds a) : a.eval = ev ρ := by
  funext x
  cases x with
  | tmp t => exact h.get t
  | const v => rfl
  | global g => rfl
  | func f => rfl
theorem Rp.put {n : Nat} {ρ : Env} {ds : List Deferred} {a : Act} (h : Rp n ρ ds a) (d : Nat) (v : Value) (hd : Nat.blt d n = true) : Rp n ((d, v) :: ρ) ds (a.put (some d) v) := by
  have hd' : d < a.tmps.size := by rw [h.size]; simpa using hd
  refine ⟨by simp [Act.put, h.size], fun t => ?_, h.defers⟩
  rw [lk_cons]
  by_cases ht : d = t
  · subst ht; simp [Act.put, hd']
  · rw [if_neg ht, ← h.get t]
    simp [Act.put, ht]
theorem Rp.none {n : Nat} {ρ : Env} {ds : List Deferred} {a : Act} (h : Rp n ρ ds a) (v : Value) : Rp n ρ ds (a.put none v) := h
theorem Rp.know {n : Nat} {ρ : Env} {ds : List Deferred} {a : Act} (h : Rp n ρ ds a) {t : Nat} {v : Value} (e : lk ρ t = v) : Rp n ((t, v) :: ρ) ds a :=
  ⟨h.size, fun u => by rw [lk_cons, h.get u]; by_cases hu : t = u <;> simp [hu]; rw [← hu, e], h.defers⟩

/-- How the code comes out: a function returns, or panics; a round answers its caller. -/
def Out (P : Program) (f : FuncId) (rd : Option Nat) (m : Machine) (cs : List Frame) (e : Ending) (w' : World) : Prop := match rd with
  | none => ∃ fr, Comes P m (lone fr cs w') e ∧ fr.fn = f ∧ fr.leaving P w' e
  | some _ => ∀ c cs', cs = c :: cs' → ∃ v, e = .returned v ∧ Steps P m (lone (c.finish v) cs' w')
theorem Out.of_steps {P : Program} {f : FuncId} {rd : Option Nat} {m m' : Machine} {cs : List Frame} {e : Ending} {w' : World} (hs : Steps P m m') (h : Out P f rd m' cs e w') : Out P f rd m cs e w' := by
  cases rd with
  | none => obtain ⟨fr, hc, hf, hl⟩ := h; exact ⟨fr, Comes.of_steps hs hc, hf, hl⟩
  | some l => intro c cs' hcs; obtain ⟨v, he, hs'⟩ := h c cs' hcs; exact ⟨v, he, hs.trans hs'⟩
/-- From this state on the code comes to an end that is claimed. -/
def WP (cx : Cx) (k : List Item) (a : Act) (w : World) : Prop :=
  ∀ cs, ∃ e w', (∃ Γ, cx.R e Γ ∧ Sat cx.E Γ w') ∧ Out cx.P cx.f cx.rd (lone (cx.b.atR a k) cs w) cs e w'
theorem WP.step {cx : Cx} {k k' : List Item} {a a' : Act} {w w' : World} (h : WP cx k' a' w') (hs : ∀ cs, Steps cx.P (lone (cx.b.atR a k) cs w) (lone (cx.b.atR a' k') cs w')) : WP cx k a w := by
  intro cs
  obtain ⟨e, w1, hR, ho⟩ := h cs
  exact ⟨e, w1, hR, ho.of_steps (hs cs)⟩
/-- What a piece of code may come to, ahead of k. -/
def Qk (cx : Cx) (k : Act → World → Prop) : Exit → Act → World → Prop
  | .normal, a, w => k a w
  | .panic ch, a, w => cx.rd = none ∧ ((a.defers = [] ∧ ∃ Γ, cx.R (.panicked ch) Γ ∧ Sat cx.E Γ w) ∨ (cx.md = some none ∧ Leaves cx.P cx.fn a.tmps (fun e w' => ∃ Γ, cx.R e Γ ∧ Sat cx.E Γ w') a.defers (.panicking ch) w))
  | _, _, _ => False
theorem Qk.put {cx : Cx} {k : Act → World → Prop} (hmd : cx.md = none) {ch : List PanicEntry} {a : Act} {o : Option Nat} {v : Value} {w : World} (h : Qk cx k (.panic ch) (a.put o v) w) : Qk cx k (.panic ch) a w := by
  obtain ⟨h1, ⟨h2, h3⟩ | ⟨h2, _⟩⟩ := h
  · cases o <;> exact ⟨h1, .inl ⟨h2, h3⟩⟩
  · rw [hmd] at h2; cases h2
theorem WP.code {cx : Cx} (hrd : cx.rd = none) {k : List Item} {c : Code} {a : Act} {w : World} (h : c.wp cx.P (Qk cx (WP cx k)) a w) : WP cx (.code c :: k) a w := by
  intro cs
  obtain ⟨e, a', w', hq, harr⟩ := h cx.b k cs
  rw [← cx.at hrd] at harr
  cases e with
  | normal =>
    obtain ⟨e1, w1, hR, ho⟩ := hq cs
    refine ⟨e1, w1, hR, ho.of_steps ?_⟩
    rw [cx.at hrd a' k]; exact harr
  | panic ch =>
    obtain ⟨_, hlv⟩ := hq
    have hlv : Leaves cx.P cx.fn a'.tmps (fun e w' => ∃ Γ, cx.R e Γ ∧ Sat cx.E Γ w') a'.defers (.panicking ch) w' := by
      rcases hlv with ⟨h1, h2⟩ | ⟨_, h2⟩
      · rw [h1]; exact h2
      · exact h2
    obtain ⟨todo, hs⟩ := harr
    obtain ⟨e1, w1, fr, hR, hc, hf, hl⟩ := leaves_steps a'.defers (.panicking ch) w' { cx.b.at a' todo with mode := .panicking ch } cs rfl rfl rfl cx.hfn rfl hlv
    refine ⟨e1, w1, hR, ?_⟩
    unfold Out
    rw [hrd]
    exact ⟨fr, Comes.of_steps hs hc, hf, hl⟩
  | exit id => exact hq.elim
  | goto l => exact hq.elim
  | ret => exact hq.elim
  | outgrown => exact hq.elim
theorem room_any {cx : Cx} (n : Nat) : cx.F.room n := fun d hd => by cases hd
theorem WP.codeIn {cx : Cx} {k : List Item} {c : Code} {a : Act} {w : World} (h : c.wpIn cx.F 0 cx.P (Qk cx (WP cx k)) a w) : WP cx (.code c :: k) a w := by
  intro cs
  obtain ⟨e, a', w', hq, harr⟩ := h cx.b k cs rfl trivial (room_any _)
  cases e with
  | normal =>
    obtain ⟨e1, w1, hR, ho⟩ := hq cs
    exact ⟨e1, w1, hR, ho.of_steps (StepsIn.steps harr)⟩
  | panic ch =>
    obtain ⟨hrd, hlv⟩ := hq
    have hlv : Leaves cx.P cx.fn a'.tmps (fun e w' => ∃ Γ, cx.R e Γ ∧ Sat cx.E Γ w') a'.defers (.panicking ch) w' := by
      rcases hlv with ⟨h1, h2⟩ | ⟨_, h2⟩
      · rw [h1]; exact h2
      · exact h2
    obtain ⟨todo, hs⟩ := harr
    obtain ⟨e1, w1, fr, hR, hc, hf, hl⟩ := leaves_steps a'.defers (.panicking ch) w' { cx.b.atR a' todo with mode := .panicking ch } cs rfl rfl rfl cx.hfn rfl hlv
    refine ⟨e1, w1, hR, ?_⟩
    unfold Out
    rw [hrd]
    exact ⟨fr, Comes.of_steps (StepsIn.steps hs) hc, hf, hl⟩
  | exit id => exact hq.elim
  | goto l => exact hq.elim
  | ret => exact hq.elim
  | outgrown => exact hq.elim

/-! ### operations, one by one -/
def wpL (cx : Cx) (ops : Array Oper) (Q : Exit → Act → World → Prop) (rest : List Oper) (a : Act) (w : World) : Prop := match cx.md with
  | none => wpList cx.P ops Q rest a w
  | some _ => wpListIn cx.F 0 cx.P ops Q rest a w
theorem nd_value {P : Program} {ρ : Operand → Value} {o : Oper} {w w' : World} {v : Value} (h : (execOp ρ o).run P w = .ok (.value v) w') : ∀ c, o.op ≠ .defer c := by
  intro c hc
  simp only [execOp, hc, Sem.run_bind] at h
  cases hr : (resolve ρ c o.type).run P w with
  | ok d w1 => rw [hr] at h; simp at h
  | halt x w1 => rw [hr] at h; simp [Result.andThen] at h
theorem nd_skip {P : Program} {ρ : Operand → Value} {o : Oper} {w w' : World} (h : (execOp ρ o).run P w = .ok .skip w') : ∀ c, o.op ≠ .defer c := by
  intro c hc
  simp only [execOp, hc, Sem.run_bind] at h
  cases hr : (resolve ρ c o.type).run P w with
  | ok d w1 => rw [hr] at h; simp at h
  | halt x w1 => rw [hr] at h; simp [Result.andThen] at h
theorem nd_enter {P : Program} {ρ : Operand → Value} {o : Oper} {w w' : World} {f : FuncId} {args : Array Value} (h : (execOp ρ o).run P w = .ok (.enter f args) w') : ∀ c, o.op ≠ .defer c := by
  intro c hc
  simp only [execOp, hc, Sem.run_bind] at h
  cases hr : (resolve ρ c o.type).run P w with
  | ok d w1 => rw [hr] at h; simp at h
  | halt x w1 => rw [hr] at h; simp [Result.andThen] at h
section
variable {cx : Cx} {ops : Array Oper} {Q : Exit → Act → World → Prop} {o : Oper} {rest : List Oper} {a : Act} {w w' : World}
theorem wpL_value {v : Value} (hw : Region.wanted o (yielded ops a.tmps) = true) (hrun : (execOp a.eval o).run cx.P w = .ok (.value v) w') (h : wpL cx ops Q rest (a.put o.dst v) w') : wpL cx ops Q (o :: rest) a w := by
  have hnd := nd_value hrun
  unfold wpL at h ⊢
  cases hmd : cx.md with
  | none =>
    simp only [hmd] at h ⊢
    unfold wpList
    rw [if_pos hw]
    left
    unfold Oper.wp
    rw [hrun]; exact h
  | some r =>
    simp only [hmd] at h ⊢
    unfold wpListIn
    rw [if_pos hw]
    refine ⟨fun _ _ => trivial, ?_⟩
    rw [Oper.semAt_eq _ _ _ hnd, hrun]; exact h
theorem wpL_skip (hw : Region.wanted o (yielded ops a.tmps) = true) (hrun : (execOp a.eval o).run cx.P w = .ok .skip w') (h : wpL cx ops Q rest (a.put o.dst undef) w') : wpL cx ops Q (o :: rest) a w := by
  have hnd := nd_skip hrun
  unfold wpL at h ⊢
  cases hmd : cx.md with
  | none =>
    simp only [hmd] at h ⊢
    unfold wpList
    rw [if_pos hw]
    left
    unfold Oper.wp
    rw [hrun]; exact h
  | some r =>
    simp only [hmd] at h ⊢
    unfold wpListIn
    rw [if_pos hw]
    refine ⟨fun _ _ => trivial, ?_⟩
    rw [Oper.semAt_eq _ _ _ hnd, hrun]; exact h
theorem callsIn_any {f : FuncId} {args : Array Value} {R : Ending → World → Prop} (h : Calls cx.P f args w R) : CallsIn cx.F 0 cx.P f args w R :=
  (callsIn_wide (n := 0)).2 h
theorem wpL_enter {f : FuncId} {args : Array Value} (hw : Region.wanted o (yielded ops a.tmps) = true) (hrun : (execOp a.eval o).run cx.P w = .ok (.enter f args) w')
    (h : Calls cx.P f args w' fun e w'' => match e with | .returned v => wpL cx ops Q rest (a.put o.dst v) w'' | .panicked ch => Q (.panic ch) a w'' | .outgrown => False) : wpL cx ops Q (o :: rest) a w := by
  have hnd := nd_enter hrun
  unfold wpL at h ⊢
  cases hmd : cx.md with
  | none =>
    simp only [hmd] at h ⊢
    unfold wpList
    rw [if_pos hw]
    left
    unfold Oper.wp
    rw [hrun]
    refine Calls.mono h fun e w'' he => ?_
    cases e with
    | returned v => exact he
    | panicked ch => exact he
    | outgrown => exact he.elim
  | some r =>
    simp only [hmd] at h ⊢
    unfold wpListIn
    rw [if_pos hw]
    refine ⟨fun _ _ => trivial, ?_⟩
    rw [Oper.semAt_eq _ _ _ hnd, hrun]
    refine ⟨fun h => (by cases h), callsIn_any (Calls.mono h fun e w'' he => ?_)⟩
    cases e with
    | returned v => exact he
    | panicked ch => exact he
    | outgrown => exact he.elim
theorem wpL_unguard (hw : Region.wanted o (yielded ops a.tmps) = true) (h : wpL cx ops Q ({ o with guard := none } :: rest) a w) : wpL cx ops Q (o :: rest) a w := by
  unfold wpL at h ⊢
  cases hmd : cx.md with
  | none =>
    simp only [hmd] at h ⊢
    unfold wpList at h ⊢
    rw [if_pos hw]
    rw [if_pos (by simp [Region.wanted])] at h
    obtain ⟨_, _, _, _, _, _⟩ := o
    exact h
  | some r =>
    simp only [hmd] at h ⊢
    unfold wpListIn at h ⊢
    rw [if_pos hw]
    rw [if_pos (by simp [Region.wanted])] at h
    obtain ⟨_, _, _, _, _, _⟩ := o
    exact h
theorem wpL_pass (hw : Region.wanted o (yielded ops a.tmps) = false) (h : wpL cx ops Q rest (a.put o.dst undef) w) : wpL cx ops Q (o :: rest) a w := by
  unfold wpL at h ⊢
  cases hmd : cx.md with
  | none =>
    simp only [hmd] at h ⊢
    exact wpList_skip hw h
  | some r =>
    simp only [hmd] at h ⊢
    unfold wpListIn
    rw [if_neg (by rw [hw]; simp)]
    exact ⟨fun _ _ => trivial, h⟩
theorem wpL_nil (h : Q .normal a w) : wpL cx ops Q [] a w := by
  unfold wpL
  cases cx.md <;> exact h
end

/-- THE JUDGEMENT on what is still to do. -/
def TK (cx : Cx) (k : List Item) (ρ : Env) (ds : List Deferred) (Γ : List HP) : Prop := ∀ a w, Rp cx.n ρ ds a → Sat cx.E Γ w → WP cx k a w
/-- THE JUDGEMENT on the operations of a region that are still to come. -/
def TL (cx : Cx) (ops : Array Oper) (k : Act → World → Prop) (rest : List Oper) (ρ : Env) (ds : List Deferred) (Γ : List HP) : Prop :=
  ∀ a w, Rp cx.n ρ ds a → Sat cx.E Γ w → wpL cx ops (Qk cx k) rest a w

/-- THE CONTRACT of a function in a context. -/
def Fn (P : Program) (f : FuncId) (args : List Value) (Γ : List HP) (R : Ending → List HP → Prop) : Prop :=
  ∀ E w, Sat E Γ w → Calls P f args.toArray w fun e w' => ∃ Γ', R e Γ' ∧ Sat E Γ' w'
theorem Fn.mono {P : Program} {f : FuncId} {args : List Value} {Γ : List HP} {R R' : Ending → List HP → Prop} (h : Fn P f args Γ R) (hr : ∀ e Γ', R e Γ' → R' e Γ') : Fn P f args Γ R' :=
  fun E w hs => (h E w hs).mono fun _ _ ⟨Γ', h1, h2⟩ => ⟨Γ', hr _ _ h1, h2⟩
theorem Fn.imp {P : Program} {f : FuncId} {args : List Value} {Γ Δ : List HP} {R : Ending → List HP → Prop} (h : Fn P f args Δ R) (hk : ∀ m, all Γ m → all Δ m) : Fn P f args Γ R :=
  fun E w hs => h E w (hs.imp hk)

theorem Fn.mem {P : Program} {f : FuncId} {args : List Value} {Γ : List HP} {R : Ending → List HP → Prop} (h : ∀ m, all Γ m → Fn P f args Γ R) : Fn P f args Γ R := by
  intro E w hs
  obtain ⟨m, hm, _⟩ := hs.mem
  exact h m hm E w hs
def envOf : List Value → Nat → Env
  | [], _ => []
  | v :: vs, i => (i, v) :: envOf vs (i + 1)
theorem lk_envOf (vs : List Value) : ∀ i t, lk (envOf vs i) t = if i ≤ t then vs.getD (t - i) undef else undef := by
  induction vs with
  | nil => intro i t; simp [envOf, lk]
  | cons v vs ih =>
    intro i t
    rw [envOf, lk_cons, ih]
    by_cases h : i = t
    · subst h; simp
    · rw [if_neg h]
      by_cases h1 : i ≤ t
      · have h2 : i + 1 ≤ t := by omega
        have h3 : t - i = (t - (i + 1)) + 1 := by omega
        simp [h1, h2, h3]
      · have h2 : ¬ i + 1 ≤ t := by omega
        simp [h1, h2]
theorem Fn.enter {P : Program} {f : FuncId} {fn : Func} {c : Code} {n : Nat} {args : List Value} {Γ : List HP} {R : Ending → List HP → Prop} (hfn : P.funcs[f]? = some fn) (hc : fn.body = some c) (hn : fn.ntmps = n)
    (hlen : Nat.ble args.length n = true) (h : ∀ E, TK ⟨P, E, n, f, R, fn, hfn, none⟩ [.code c] (envOf args 0) [] Γ) : Fn P f args Γ R := by
  intro E w hs cs
  have hl : args.length ≤ n := by simpa using hlen
  have := h E ⟨args.toArray ++ Array.replicate (n - args.length) undef, []⟩ w ⟨by simp; omega, fun t => by
    rw [lk_envOf]
    simp only [Nat.zero_le, if_true, Nat.sub_zero, Array.getD_eq_getD_getElem?, List.getD_eq_getElem?_getD]
    rcases Nat.lt_or_ge t args.length with ht | ht
    · rw [Array.getElem?_append_left (by simpa using ht)]; simp
    · rw [Array.getElem?_append_right (by simpa using ht), Array.getElem?_replicate, List.getElem?_eq_none ht]
      split <;> simp, rfl⟩ hs cs
  obtain ⟨e, w', hR, fr, hcm, hf, hlv⟩ := this
  refine ⟨e, w', fr, hR, ?_, hf, hlv⟩
  have he : Frame.enter P f args.toArray .normal = (Cx.b ⟨P, E, n, f, R, fn, hfn, none⟩).atR ⟨args.toArray ++ Array.replicate (n - args.length) undef, []⟩ [.code c] := by
    simp [Frame.enter, Frame.atR, Cx.b, Cx.rd, hfn, hc, hn]
  rw [he]; exact hcm

theorem Fn.enterIn {P : Program} {f : FuncId} {fn : Func} {c : Code} {n : Nat} {args : List Value} {Γ : List HP} {R : Ending → List HP → Prop} (hfn : P.funcs[f]? = some fn) (hc : fn.body = some c) (hn : fn.ntmps = n)
    (hlen : Nat.ble args.length n = true) (h : ∀ E, TK ⟨P, E, n, f, R, fn, hfn, some none⟩ [.code c] (envOf args 0) [] Γ) : Fn P f args Γ R := by
  intro E w hs cs
  have hl : args.length ≤ n := by simpa using hlen
  have := h E ⟨args.toArray ++ Array.replicate (n - args.length) undef, []⟩ w ⟨by simp; omega, fun t => by
    rw [lk_envOf]
    simp only [Nat.zero_le, if_true, Nat.sub_zero, Array.getD_eq_getD_getElem?, List.getD_eq_getElem?_getD]
    rcases Nat.lt_or_ge t args.length with ht | ht
    · rw [Array.getElem?_append_left (by simpa using ht)]; simp
    · rw [Array.getElem?_append_right (by simpa using ht), Array.getElem?_replicate, List.getElem?_eq_none ht]
      split <;> simp, rfl⟩ hs cs
  obtain ⟨e, w', hR, fr, hcm, hf, hlv⟩ := this
  refine ⟨e, w', fr, hR, ?_, hf, hlv⟩
  have he : Frame.enter P f args.toArray .normal = (Cx.b ⟨P, E, n, f, R, fn, hfn, some none⟩).atR ⟨args.toArray ++ Array.replicate (n - args.length) undef, []⟩ [.code c] := by
    simp [Frame.enter, Frame.atR, Cx.b, Cx.rd, hfn, hc, hn]
  rw [he]; exact hcm

section
variable {cx : Cx} {k : List Item} {ρ : Env} {ds : List Deferred} {Γ : List HP}
theorem TK.know {t : Nat} {v : Value} (e : lk ρ t = v) (h : TK cx k ((t, v) :: ρ) ds Γ) : TK cx k ρ ds Γ := fun a w hr hs => h a w (hr.know e) hs
theorem lk_know {ρ : Env} : ∀ (L : List (Nat × Value)), (∀ p ∈ L, lk ρ p.1 = p.2) → ∀ t, lk (L ++ ρ) t = lk ρ t
  | [], _, _ => rfl
  | (d, v) :: L, h, t => by
    show lk ((d, v) :: (L ++ _)) t = _
    rw [lk_cons]
    by_cases hd : d = t
    · rw [if_pos hd, ← hd]; exact (h (d, v) (by simp)).symm
    · rw [if_neg hd]; exact lk_know L (fun p hp => h p (by simp [hp])) t
theorem TK.knows (L : List (Nat × Value)) (hL : ∀ p ∈ L, lk ρ p.1 = p.2) (h : TK cx k (L ++ ρ) ds Γ) : TK cx k ρ ds Γ :=
  fun a w hr hs => h a w ⟨hr.size, fun t => by rw [lk_know L hL]; exact hr.get t, hr.defers⟩ hs
theorem TK.know2 {t0 : Nat} {v0 : Value} {t1 : Nat} {v1 : Value} (e0 : lk ρ t0 = v0) (e1 : lk ρ t1 = v1) (h : TK cx k ((t0, v0) :: (t1, v1) :: ρ) ds Γ) : TK cx k ρ ds Γ := .knows [(t0, v0), (t1, v1)] (by simp [e0, e1]) h
theorem TK.know3 {t0 : Nat} {v0 : Value} {t1 : Nat} {v1 : Value} {t2 : Nat} {v2 : Value} (e0 : lk ρ t0 = v0) (e1 : lk ρ t1 = v1) (e2 : lk ρ t2 = v2) (h : TK cx k ((t0, v0) :: (t1, v1) :: (t2, v2) :: ρ) ds Γ) : TK cx k ρ ds Γ := .knows [(t0, v0), (t1, v1), (t2, v2)] (by simp [e0, e1, e2]) h
theorem TK.know4 {t0 : Nat} {v0 : Value} {t1 : Nat} {v1 : Value} {t2 : Nat} {v2 : Value} {t3 : Nat} {v3 : Value} (e0 : lk ρ t0 = v0) (e1 : lk ρ t1 = v1) (e2 : lk ρ t2 = v2) (e3 : lk ρ t3 = v3) (h : TK cx k ((t0, v0) :: (t1, v1) :: (t2, v2) :: (t3, v3) :: ρ) ds Γ) : TK cx k ρ ds Γ := .knows [(t0, v0), (t1, v1), (t2, v2), (t3, v3)] (by simp [e0, e1, e2, e3]) h
theorem TK.know5 {t0 : Nat} {v0 : Value} {t1 : Nat} {v1 : Value} {t2 : Nat} {v2 : Value} {t3 : Nat} {v3 : Value} {t4 : Nat} {v4 : Value} (e0 : lk ρ t0 = v0) (e1 : lk ρ t1 = v1) (e2 : lk ρ t2 = v2) (e3 : lk ρ t3 = v3) (e4 : lk ρ t4 = v4) (h : TK cx k ((t0, v0) :: (t1, v1) :: (t2, v2) :: (t3, v3) :: (t4, v4) :: ρ) ds Γ) : TK cx k ρ ds Γ := .knows [(t0, v0), (t1, v1), (t2, v2), (t3, v3), (t4, v4)] (by simp [e0, e1, e2, e3, e4]) h
theorem TK.know6 {t0 : Nat} {v0 : Value} {t1 : Nat} {v1 : Value} {t2 : Nat} {v2 : Value} {t3 : Nat} {v3 : Value} {t4 : Nat} {v4 : Value} {t5 : Nat} {v5 : Value} (e0 : lk ρ t0 = v0) (e1 : lk ρ t1 = v1) (e2 : lk ρ t2 = v2) (e3 : lk ρ t3 = v3) (e4 : lk ρ t4 = v4) (e5 : lk ρ t5 = v5) (h : TK cx k ((t0, v0) :: (t1, v1) :: (t2, v2) :: (t3, v3) :: (t4, v4) :: (t5, v5) :: ρ) ds Γ) : TK cx k ρ ds Γ := .knows [(t0, v0), (t1, v1), (t2, v2), (t3, v3), (t4, v4), (t5, v5)] (by simp [e0, e1, e2, e3, e4, e5]) h
theorem TK.know7 {t0 : Nat} {v0 : Value} {t1 : Nat} {v1 : Value} {t2 : Nat} {v2 : Value} {t3 : Nat} {v3 : Value} {t4 : Nat} {v4 : Value} {t5 : Nat} {v5 : Value} {t6 : Nat} {v6 : Value} (e0 : lk ρ t0 = v0) (e1 : lk ρ t1 = v1) (e2 : lk ρ t2 = v2) (e3 : lk ρ t3 = v3) (e4 : lk ρ t4 = v4) (e5 : lk ρ t5 = v5) (e6 : lk ρ t6 = v6) (h : TK cx k ((t0, v0) :: (t1, v1) :: (t2, v2) :: (t3, v3) :: (t4, v4) :: (t5, v5) :: (t6, v6) :: ρ) ds Γ) : TK cx k ρ ds Γ := .knows [(t0, v0), (t1, v1), (t2, v2), (t3, v3), (t4, v4), (t5, v5), (t6, v6)] (by simp [e0, e1, e2, e3, e4, e5, e6]) h
theorem TK.know8 {t0 : Nat} {v0 : Value} {t1 : Nat} {v1 : Value} {t2 : Nat} {v2 : Value} {t3 : Nat} {v3 : Value} {t4 : Nat} {v4 : Value} {t5 : Nat} {v5 : Value} {t6 : Nat} {v6 : Value} {t7 : Nat} {v7 : Value} (e0 : lk ρ t0 = v0) (e1 : lk ρ t1 = v1) (e2 : lk ρ t2 = v2) (e3 : lk ρ t3 = v3) (e4 : lk ρ t4 = v4) (e5 : lk ρ t5 = v5) (e6 : lk ρ t6 = v6) (e7 : lk ρ t7 = v7) (h : TK cx k ((t0, v0) :: (t1, v1) :: (t2, v2) :: (t3, v3) :: (t4, v4) :: (t5, v5) :: (t6, v6) :: (t7, v7) :: ρ) ds Γ) : TK cx k ρ ds Γ := .knows [(t0, v0), (t1, v1), (t2, v2), (t3, v3), (t4, v4), (t5, v5), (t6, v6), (t7, v7)] (by simp [e0, e1, e2, e3, e4, e5, e6, e7]) h
theorem TK.know9 {t0 : Nat} {v0 : Value} {t1 : Nat} {v1 : Value} {t2 : Nat} {v2 : Value} {t3 : Nat} {v3 : Value} {t4 : Nat} {v4 : Value} {t5 : Nat} {v5 : Value} {t6 : Nat} {v6 : Value} {t7 : Nat} {v7 : Value} {t8 : Nat} {v8 : Value} (e0 : lk ρ t0 = v0) (e1 : lk ρ t1 = v1) (e2 : lk ρ t2 = v2) (e3 : lk ρ t3 = v3) (e4 : lk ρ t4 = v4) (e5 : lk ρ t5 = v5) (e6 : lk ρ t6 = v6) (e7 : lk ρ t7 = v7) (e8 : lk ρ t8 = v8) (h : TK cx k ((t0, v0) :: (t1, v1) :: (t2, v2) :: (t3, v3) :: (t4, v4) :: (t5, v5) :: (t6, v6) :: (t7, v7) :: (t8, v8) :: ρ) ds Γ) : TK cx k ρ ds Γ := .knows [(t0, v0), (t1, v1), (t2, v2), (t3, v3), (t4, v4), (t5, v5), (t6, v6), (t7, v7), (t8, v8)] (by simp [e0, e1, e2, e3, e4, e5, e6, e7, e8]) h
theorem TK.know10 {t0 : Nat} {v0 : Value} {t1 : Nat} {v1 : Value} {t2 : Nat} {v2 : Value} {t3 : Nat} {v3 : Value} {t4 : Nat} {v4 : Value} {t5 : Nat} {v5 : Value} {t6 : Nat} {v6 : Value} {t7 : Nat} {v7 : Value} {t8 : Nat} {v8 : Value} {t9 : Nat} {v9 : Value} (e0 : lk ρ t0 = v0) (e1 : lk ρ t1 = v1) (e2 : lk ρ t2 = v2) (e3 : lk ρ t3 = v3) (e4 : lk ρ t4 = v4) (e5 : lk ρ t5 = v5) (e6 : lk ρ t6 = v6) (e7 : lk ρ t7 = v7) (e8 : lk ρ t8 = v8) (e9 : lk ρ t9 = v9) (h : TK cx k ((t0, v0) :: (t1, v1) :: (t2, v2) :: (t3, v3) :: (t4, v4) :: (t5, v5) :: (t6, v6) :: (t7, v7) :: (t8, v8) :: (t9, v9) :: ρ) ds Γ) : TK cx k ρ ds Γ := .knows [(t0, v0), (t1, v1), (t2, v2), (t3, v3), (t4, v4), (t5, v5), (t6, v6), (t7, v7), (t8, v8), (t9, v9)] (by simp [e0, e1, e2, e3, e4, e5, e6, e7, e8, e9]) h
theorem TK.know11 {t0 : Nat} {v0 : Value} {t1 : Nat} {v1 : Value} {t2 : Nat} {v2 : Value} {t3 : Nat} {v3 : Value} {t4 : Nat} {v4 : Value} {t5 : Nat} {v5 : Value} {t6 : Nat} {v6 : Value} {t7 : Nat} {v7 : Value} {t8 : Nat} {v8 : Value} {t9 : Nat} {v9 : Value} {t10 : Nat} {v10 : Value} (e0 : lk ρ t0 = v0) (e1 : lk ρ t1 = v1) (e2 : lk ρ t2 = v2) (e3 : lk ρ t3 = v3) (e4 : lk ρ t4 = v4) (e5 : lk ρ t5 = v5) (e6 : lk ρ t6 = v6) (e7 : lk ρ t7 = v7) (e8 : lk ρ t8 = v8) (e9 : lk ρ t9 = v9) (e10 : lk ρ t10 = v10) (h : TK cx k ((t0, v0) :: (t1, v1) :: (t2, v2) :: (t3, v3) :: (t4, v4) :: (t5, v5) :: (t6, v6) :: (t7, v7) :: (t8, v8) :: (t9, v9) :: (t10, v10) :: ρ) ds Γ) : TK cx k ρ ds Γ := .knows [(t0, v0), (t1, v1), (t2, v2), (t3, v3), (t4, v4), (t5, v5), (t6, v6), (t7, v7), (t8, v8), (t9, v9), (t10, v10)] (by simp [e0, e1, e2, e3, e4, e5, e6, e7, e8, e9, e10]) h
theorem TK.know12 {t0 : Nat} {v0 : Value} {t1 : Nat} {v1 : Value} {t2 : Nat} {v2 : Value} {t3 : Nat} {v3 : Value} {t4 : Nat} {v4 : Value} {t5 : Nat} {v5 : Value} {t6 : Nat} {v6 : Value} {t7 : Nat} {v7 : Value} {t8 : Nat} {v8 : Value} {t9 : Nat} {v9 : Value} {t10 : Nat} {v10 : Value} {t11 : Nat} {v11 : Value} (e0 : lk ρ t0 = v0) (e1 : lk ρ t1 = v1) (e2 : lk ρ t2 = v2) (e3 : lk ρ t3 = v3) (e4 : lk ρ t4 = v4) (e5 : lk ρ t5 = v5) (e6 : lk ρ t6 = v6) (e7 : lk ρ t7 = v7) (e8 : lk ρ t8 = v8) (e9 : lk ρ t9 = v9) (e10 : lk ρ t10 = v10) (e11 : lk ρ t11 = v11) (h : TK cx k ((t0, v0) :: (t1, v1) :: (t2, v2) :: (t3, v3) :: (t4, v4) :: (t5, v5) :: (t6, v6) :: (t7, v7) :: (t8, v8) :: (t9, v9) :: (t10, v10) :: (t11, v11) :: ρ) ds Γ) : TK cx k ρ ds Γ := .knows [(t0, v0), (t1, v1), (t2, v2), (t3, v3), (t4, v4), (t5, v5), (t6, v6), (t7, v7), (t8, v8), (t9, v9), (t10, v10), (t11, v11)] (by simp [e0, e1, e2, e3, e4, e5, e6, e7, e8, e9, e10, e11]) h
theorem TK.imp {Δ : List HP} (hk : ∀ m, all Γ m → all Δ m) (h : TK cx k ρ ds Δ) : TK cx k ρ ds Γ := fun a w hr hs => h a w hr (hs.imp hk)
theorem TK.drop {H : HP} (h : TK cx k ρ ds Γ) : TK cx k ρ ds (H :: Γ) := fun a w hr hs => h a w hr hs.drop
theorem TK.free {H : HP} (hH : ∀ m, emp m → H m) (h : TK cx k ρ ds (H :: Γ)) : TK cx k ρ ds Γ :=
  .imp (Δ := H :: Γ) (fun m hm => ⟨fun _ => none, m, fun _ => .inl rfl, by funext k; simp [Mem.join], hH _ (fun _ => rfl), hm⟩) h
/-- Go over to what the memory says. -/
theorem TK.open {X : Type} {Δ : X → List HP} {φ : X → Prop} (hk : ∀ m, all Γ m → ∃ x, φ x ∧ all (Δ x) m) (h : ∀ x, φ x → TK cx k ρ ds (Δ x)) : TK cx k ρ ds Γ := by
  intro a w hr hs
  obtain ⟨h1, h3, m, hm, hw⟩ := hs
  obtain ⟨x, hx, hm'⟩ := hk m hm
  exact h x hx a w hr ⟨h1, h3, m, hm', hw⟩
theorem TK.fact {p : Prop} (hk : ∀ m, all Γ m → p) (h : p → TK cx k ρ ds Γ) : TK cx k ρ ds Γ := by
  intro a w hr hs
  obtain ⟨m, hm, _⟩ := hs.mem
  exact h (hk m hm) a w hr hs
/-- Some memory bears the context. -/
theorem TK.mem (h : ∀ m, all Γ m → TK cx k ρ ds Γ) : TK cx k ρ ds Γ := by
  intro a w hr hs
  obtain ⟨m, hm, _⟩ := hs.mem
  exact h m hm a w hr hs
/-- A piece of code, whatever comes behind it: where its ways meet again. -/
theorem TK.cut {x : Code} (I : Env → List HP → Prop) (hx : ∀ k', (∀ ρ' Γ', I ρ' Γ' → TK cx k' ρ' ds Γ') → TK cx (.code x :: k') ρ ds Γ) (h : ∀ ρ' Γ', I ρ' Γ' → TK cx k ρ' ds Γ') : TK cx (.code x :: k) ρ ds Γ := hx k h
theorem TK.seq {x y : Code} (h : TK cx (.code x :: .code y :: k) ρ ds Γ) : TK cx (.code (.seq x y) :: k) ρ ds Γ := fun a w hr hs => (h a w hr hs).step fun _ => .one stepR_seq
theorem TK.skip (h : TK cx k ρ ds Γ) : TK cx (.code .skip :: k) ρ ds Γ := fun a w hr hs => (h a w hr hs).step fun _ => .one stepR_skip
theorem TK.label {l : Nat} (h : TK cx k ρ ds Γ) : TK cx (.code (.label l) :: k) ρ ds Γ := fun a w hr hs => (h a w hr hs).step fun _ => .one stepR_label
theorem TK.block {id : Nat} {c : Code} (h : TK cx (.code c :: .inBlock id :: k) ρ ds Γ) : TK cx (.code (.block id c) :: k) ρ ds Γ := fun a w hr hs => (h a w hr hs).step fun _ => .one stepR_block
theorem TK.inBlock {id : Nat} (h : TK cx k ρ ds Γ) : TK cx (.inBlock id :: k) ρ ds Γ := fun a w hr hs => (h a w hr hs).step fun _ => .one stepR_inBlock
theorem TK.exit {id : Nat} {k' : List Item} (e : exitTo id k = some k') (h : TK cx k' ρ ds Γ) : TK cx (.code (.exit id) :: k) ρ ds Γ := fun a w hr hs => (h a w hr hs).step fun _ => .one (stepR_exit e)
theorem TK.goto {l : Nat} {k' : List Item} (e : gotoIn l k = some k') (h : TK cx k' ρ ds Γ) : TK cx (.code (.goto l) :: k) ρ ds Γ := fun a w hr hs => (h a w hr hs).step fun _ => .one (stepR_goto e)
theorem TK.loop {c : Code} (h : TK cx (.code c :: .inLoop c :: k) ρ ds Γ) : TK cx (.code (.loop c) :: k) ρ ds Γ := fun a w hr hs => (h a w hr hs).step fun _ => .one stepR_loop
theorem TK.inLoop {c : Code} (h : TK cx (.code c :: .inLoop c :: k) ρ ds Γ) : TK cx (.inLoop c :: k) ρ ds Γ := fun a w hr hs => (h a w hr hs).step fun _ => .one stepR_inLoop
/-- A LOOP: a relation that bears a number, which every round lowers. -/
theorem TK.iter {c : Code} (I : Nat → Env → List HP → Prop) (n0 : Nat) (h0 : I n0 ρ Γ)
    (round : ∀ j, (∀ j' ρ' Γ', j' < j → I j' ρ' Γ' → TK cx (.inLoop c :: k) ρ' ds Γ') → ∀ ρ Γ, I j ρ Γ → TK cx (.code c :: .inLoop c :: k) ρ ds Γ) : TK cx (.code (.loop c) :: k) ρ ds Γ := by
  have key : ∀ j ρ Γ, I j ρ Γ → TK cx (.code c :: .inLoop c :: k) ρ ds Γ := by
    intro j
    induction j using Nat.strongRecOn with
    | _ j ih => exact round j fun j' ρ' Γ' hj hI => .inLoop (ih j' hj ρ' Γ' hI)
  exact .loop (key n0 ρ Γ h0)
theorem TK.cond_true {c : Operand} {x y : Code} (e : ev ρ c = .bool true) (h : TK cx (.code x :: k) ρ ds Γ) : TK cx (.code (.cond c x y) :: k) ρ ds Γ := fun a w hr hs => (h a w hr hs).step fun cs => by
  have := stepR_cond (P := cx.P) (b := cx.b) (a := a) (k := k) (cs := cs) (w := w) (c := c) (x := x) (y := y) (t := true) (by rw [hr.ev]; exact e)
  exact .one this
theorem TK.cond_false {c : Operand} {x y : Code} (e : ev ρ c = .bool false) (h : TK cx (.code y :: k) ρ ds Γ) : TK cx (.code (.cond c x y) :: k) ρ ds Γ := fun a w hr hs => (h a w hr hs).step fun cs => by
  have := stepR_cond (P := cx.P) (b := cx.b) (a := a) (k := k) (cs := cs) (w := w) (c := c) (x := x) (y := y) (t := false) (by rw [hr.ev]; exact e)
  exact .one this
/-- A test: both ways. -/
theorem TK.cond {c : Nat} {t : Bool} {x y : Code} (e : lk ρ c = .bool t) (h1 : t = true → TK cx (.code x :: k) ρ ds Γ) (h2 : t = false → TK cx (.code y :: k) ρ ds Γ) : TK cx (.code (.cond (.tmp c) x y) :: k) ρ ds Γ := by
  cases t with
  | true => exact .cond_true e (h1 rfl)
  | false => exact .cond_false e (h2 rfl)
theorem TK.region {id : Nat} {l : List Oper} (h : TL cx l.toArray (WP cx k) l ρ ds Γ) : TK cx (.code (.region id l.toArray false) :: k) ρ ds Γ :=
  fun a w hr hs => by
    have h1 := h a w hr hs
    unfold wpL at h1
    cases hmd : cx.md with
    | none =>
      simp only [hmd] at h1
      exact WP.code (Cx.rd_of hmd) (wp_region_lit h1)
    | some r =>
      simp only [hmd] at h1
      exact WP.codeIn (wpIn_region_lit h1)
theorem TK.condT {c : Operand} {t : Bool} {x y : Code} (e : ev ρ c = .bool t) (ht : t = true) (h : TK cx (.code x :: k) ρ ds Γ) : TK cx (.code (.cond c x y) :: k) ρ ds Γ := .cond_true (ht ▸ e) h
theorem TK.condF {c : Operand} {t : Bool} {x y : Code} (e : ev ρ c = .bool t) (ht : t = false) (h : TK cx (.code y :: k) ρ ds Γ) : TK cx (.code (.cond c x y) :: k) ρ ds Γ := .cond_false (ht ▸ e) h
/-- The results. -/
theorem TK.ret {v : Value} {k : List Item} (hrd : cx.rd = none) (hres : ∀ a w, Rp cx.n ρ [] a → Sat cx.E Γ w → (results cx.fn a.tmps).run cx.P w = .ok v w) (h : cx.R (.returned v) Γ) : TK cx (.code .ret :: k) ρ [] Γ := by
  intro a w hr hs cs
  refine ⟨.returned v, w, ⟨Γ, h, hs⟩, ?_⟩
  unfold Out
  rw [hrd]
  exact ⟨{ cx.b.atR a (.code .ret :: k) with mode := .returning }, Steps.one (stepR_ret hrd), rfl, rfl, hr.defers, rfl, cx.fn, cx.hfn, hres a w hr hs⟩
theorem TK.ret0 {k : List Item} (hrd : cx.rd = none) (hres : cx.fn.results = #[]) (h : cx.R (.returned (.tuple #[])) Γ) : TK cx (.code .ret :: k) ρ [] Γ :=
  .ret hrd (fun a w _ _ => by simp [results, hres, go_sem]) h
theorem TK.over0 (hrd : cx.rd = none) (hres : cx.fn.results = #[]) (h : cx.R (.returned (.tuple #[])) Γ) : TK cx [] ρ [] Γ := by
  intro a w hr hs cs
  refine ⟨_, w, ⟨Γ, h, hs⟩, ?_⟩
  unfold Out
  rw [hrd]
  exact ⟨{ cx.b.atR a [] with mode := .returning }, Steps.one (stepR_end hrd), rfl, rfl, hr.defers, rfl, cx.fn, cx.hfn, by simp [results, hres, go_sem]⟩
theorem TK.ret1 {k : List Item} {t : Nat} {v : Value} (hrd : cx.rd = none) (hres : cx.fn.results = #[.tmp t]) (e : lk ρ t = v) (h : cx.R (.returned v) Γ) : TK cx (.code .ret :: k) ρ [] Γ :=
  .ret hrd (fun a w hr _ => by rw [← e, ← hr.get t]; simp [results, hres, go_sem]) h
theorem TK.ret2 {k : List Item} {t u : Nat} {v v' : Value} (hrd : cx.rd = none) (hres : cx.fn.results = #[.tmp t, .tmp u]) (e : lk ρ t = v) (e' : lk ρ u = v') (h : cx.R (.returned (.tuple #[v, v'])) Γ) : TK cx (.code .ret :: k) ρ [] Γ :=
  .ret hrd (fun a w hr _ => by rw [← e, ← e', ← hr.get t, ← hr.get u]; simp [results, hres, go_sem]) h
theorem TK.ret3 {k : List Item} {t u s : Nat} {v v' v'' : Value} (hrd : cx.rd = none) (hres : cx.fn.results = #[.tmp t, .tmp u, .tmp s]) (e : lk ρ t = v) (e' : lk ρ u = v') (e'' : lk ρ s = v'') (h : cx.R (.returned (.tuple #[v, v', v''])) Γ) : TK cx (.code .ret :: k) ρ [] Γ :=
  .ret hrd (fun a w hr _ => by rw [← e, ← e', ← e'', ← hr.get t, ← hr.get u, ← hr.get s]; simp [results, hres, go_sem]) h
end

section
variable {cx : Cx} {ops : Array Oper} {k : Act → World → Prop} {rest : List Oper} {ρ : Env} {ds : List Deferred} {Γ : List HP}
theorem TL.nil {k : List Item} (h : TK cx k ρ ds Γ) : TL cx ops (WP cx k) [] ρ ds Γ := fun a w hr hs => wpL_nil (h a w hr hs)
theorem TL.know {t : Nat} {v : Value} (e : lk ρ t = v) (h : TL cx ops k rest ((t, v) :: ρ) ds Γ) : TL cx ops k rest ρ ds Γ := fun a w hr hs => h a w (hr.know e) hs
/-- A bool that is not known: both ways. -/
theorem TL.cases (t : Nat) {c : Bool} (e : lk ρ t = .bool c) (h1 : c = true → TL cx ops k rest ((t, .bool true) :: ρ) ds Γ) (h2 : c = false → TL cx ops k rest ((t, .bool false) :: ρ) ds Γ) : TL cx ops k rest ρ ds Γ := by
  cases c with
  | true => exact .know e (h1 rfl)
  | false => exact .know e (h2 rfl)
theorem TL.imp {Δ : List HP} (hk : ∀ m, all Γ m → all Δ m) (h : TL cx ops k rest ρ ds Δ) : TL cx ops k rest ρ ds Γ := fun a w hr hs => h a w hr (hs.imp hk)
theorem TL.open {X : Type} {Δ : X → List HP} {φ : X → Prop} (hk : ∀ m, all Γ m → ∃ x, φ x ∧ all (Δ x) m) (h : ∀ x, φ x → TL cx ops k rest ρ ds (Δ x)) : TL cx ops k rest ρ ds Γ := by
  intro a w hr hs
  obtain ⟨h1, h3, m, hm, hw⟩ := hs
  obtain ⟨x, hx, hm'⟩ := hk m hm
  exact h x hx a w hr ⟨h1, h3, m, hm', hw⟩
theorem TL.fact {p : Prop} (hk : ∀ m, all Γ m → p) (h : p → TL cx ops k rest ρ ds Γ) : TL cx ops k rest ρ ds Γ := by
  intro a w hr hs
  obtain ⟨m, hm, _⟩ := hs.mem
  exact h (hk m hm) a w hr hs
theorem TL.mem (h : ∀ m, all Γ m → TL cx ops k rest ρ ds Γ) : TL cx ops k rest ρ ds Γ := by
  intro a w hr hs
  obtain ⟨m, hm, _⟩ := hs.mem
  exact h m hm a w hr hs
theorem TL.free {H : HP} (hH : ∀ m, emp m → H m) (h : TL cx ops k rest ρ ds (H :: Γ)) : TL cx ops k rest ρ ds Γ :=
  .imp (Δ := H :: Γ) (fun m hm => ⟨fun _ => none, m, fun _ => .inl rfl, by funext k; simp [Mem.join], hH _ (fun _ => rfl), hm⟩) h
theorem TL.drop {H : HP} (h : TL cx ops k rest ρ ds Γ) : TL cx ops k rest ρ ds (H :: Γ) := fun a w hr hs => h a w hr hs.drop
/-- An operation that yields a value and does nothing else. -/
theorem TL.val {d : Nat} {op : Op} {ty : TypeId} {pos : String} {after : Array Edge} {v : Value} (hd : Nat.blt d cx.n = true) (hrun : ∀ w, (execOp (ev ρ) ⟨some d, op, ty, pos, after, none⟩).run cx.P w = .ok (.value v) w)
    (h : TL cx ops k rest ((d, v) :: ρ) ds Γ) : TL cx ops k (⟨some d, op, ty, pos, after, none⟩ :: rest) ρ ds Γ := by
  intro a w hr hs
  exact wpL_value rfl (by rw [hr.ev]; exact hrun w) (h _ _ (hr.put d v hd) hs)
/-- The same, in a world that bears the context (a read). -/
theorem TL.read {d : Nat} {op : Op} {ty : TypeId} {pos : String} {after : Array Edge} {v : Value} (hd : Nat.blt d cx.n = true) (hrun : ∀ w, Sat cx.E Γ w → (execOp (ev ρ) ⟨some d, op, ty, pos, after, none⟩).run cx.P w = .ok (.value v) w)
    (h : TL cx ops k rest ((d, v) :: ρ) ds Γ) : TL cx ops k (⟨some d, op, ty, pos, after, none⟩ :: rest) ρ ds Γ := by
  intro a w hr hs
  exact wpL_value rfl (by rw [hr.ev]; exact hrun w hs) (h _ _ (hr.put d v hd) hs)
/-- An operation that turns the world. -/
theorem TL.act {d : Nat} {op : Op} {ty : TypeId} {pos : String} {after : Array Edge} {X : Type} {v : X → Value} {Δ : X → List HP} {φ : X → Prop} (hd : Nat.blt d cx.n = true)
    (hrun : ∀ w, Sat cx.E Γ w → ∃ x w', φ x ∧ Sat cx.E (Δ x) w' ∧ (execOp (ev ρ) ⟨some d, op, ty, pos, after, none⟩).run cx.P w = .ok (.value (v x)) w')
    (h : ∀ x, φ x → TL cx ops k rest ((d, v x) :: ρ) ds (Δ x)) : TL cx ops k (⟨some d, op, ty, pos, after, none⟩ :: rest) ρ ds Γ := by
  intro a w hr hs
  obtain ⟨x, w', hx, hs', e⟩ := hrun w hs
  exact wpL_value rfl (by rw [hr.ev]; exact e) (h x hx _ _ (hr.put d _ hd) hs')
/-- An operation without a value that turns the world. -/
theorem TL.act0 {op : Op} {ty : TypeId} {pos : String} {after : Array Edge} {Δ : List HP}
    (hrun : ∀ w, Sat cx.E Γ w → ∃ w', Sat cx.E Δ w' ∧ (execOp (ev ρ) ⟨none, op, ty, pos, after, none⟩).run cx.P w = .ok .skip w')
    (h : TL cx ops k rest ρ ds Δ) : TL cx ops k (⟨none, op, ty, pos, after, none⟩ :: rest) ρ ds Γ := by
  intro a w hr hs
  obtain ⟨w', hs', e⟩ := hrun w hs
  exact wpL_skip rfl (by rw [hr.ev]; exact e) (h _ _ (hr.none _) hs')
/-- A guard that says yes, or no. -/
theorem TL.guard_yes {o : Oper} {g : Nat} {want : Bool} {t : Nat} (hg : o.guard = some (g, want)) (ht : ((ops[g]?).bind (·.dst)) = some t) (hn : Nat.blt t cx.n = true) (e : lk ρ t = .bool want)
    (h : TL cx ops k ({ o with guard := none } :: rest) ρ ds Γ) : TL cx ops k (o :: rest) ρ ds Γ := by
  intro a w hr hs
  have h1 := h a w hr hs
  have hw : Region.wanted o (yielded ops a.tmps) = true := by
    have hlt : t < a.tmps.size := by rw [hr.size]; simpa using hn
    have e1 : a.tmps[t]? = some (.bool want) := by
      have := hr.get t
      rw [e] at this
      simp [hlt] at this ⊢
      exact this
    simp [Region.wanted, hg, yielded, ht, e1]
  exact wpL_unguard hw h1
theorem TL.guard_no {o : Oper} {g : Nat} {want : Bool} {t d : Nat} {x : Bool} (hg : o.guard = some (g, want)) (hd : o.dst = some d) (hdn : Nat.blt d cx.n = true) (ht : ((ops[g]?).bind (·.dst)) = some t) (e : lk ρ t = .bool x) (hx : (x == want) = false)
    (h : TL cx ops k rest ((d, undef) :: ρ) ds Γ) : TL cx ops k (o :: rest) ρ ds Γ := by
  intro a w hr hs
  have hw : Region.wanted o (yielded ops a.tmps) = false := by
    have : ∀ y, a.tmps[t]? = some y → y = .bool x := fun y hy => by
      have := hr.get t
      rw [e, Array.getD_eq_getD_getElem?, hy] at this
      exact this
    simp only [Region.wanted, hg, yielded, ht, Option.bind_some]
    cases hy : a.tmps[t]? with
    | none => simp
    | some y => rw [this y hy]; simpa using hx
  refine wpL_pass hw ?_
  rw [hd]
  exact h _ _ (hr.put d undef hdn) hs
theorem TL.guard_un {o : Oper} {g : Nat} {want : Bool} {t d : Nat} (hg : o.guard = some (g, want)) (hd : o.dst = some d) (hdn : Nat.blt d cx.n = true) (ht : ((ops[g]?).bind (·.dst)) = some t) (e : lk ρ t = undef)
    (h : TL cx ops k rest ((d, undef) :: ρ) ds Γ) : TL cx ops k (o :: rest) ρ ds Γ := by
  intro a w hr hs
  have hw : Region.wanted o (yielded ops a.tmps) = false := by
    have : ∀ y, a.tmps[t]? = some y → y = undef := fun y hy => by
      have := hr.get t
      rw [e, Array.getD_eq_getD_getElem?, hy] at this
      exact this
    simp only [Region.wanted, hg, yielded, ht, Option.bind_some]
    cases hy : a.tmps[t]? with
    | none => simp
    | some y => rw [this y hy]; simp [undef]
  refine wpL_pass hw ?_
  rw [hd]
  exact h _ _ (hr.put d undef hdn) hs
theorem TL.guardT {o : Oper} {g : Nat} {want : Bool} {t : Nat} {c : Bool} (_ : o.guard = some (g, want)) (_ : ((ops[g]?).bind (·.dst)) = some t) (e : lk ρ t = .bool c) (hc : c = true) (h1 : TL cx ops k (o :: rest) ((t, .bool true) :: ρ) ds Γ) : TL cx ops k (o :: rest) ρ ds Γ := .know (hc ▸ e) h1
theorem TL.guardF {o : Oper} {g : Nat} {want : Bool} {t : Nat} {c : Bool} (_ : o.guard = some (g, want)) (_ : ((ops[g]?).bind (·.dst)) = some t) (e : lk ρ t = .bool c) (hc : c = false) (h1 : TL cx ops k (o :: rest) ((t, .bool false) :: ρ) ds Γ) : TL cx ops k (o :: rest) ρ ds Γ := .know (hc ▸ e) h1
theorem TL.guard_by {o : Oper} {g : Nat} {want : Bool} {t : Nat} {c : Bool} (_ : o.guard = some (g, want)) (_ : ((ops[g]?).bind (·.dst)) = some t) (e : lk ρ t = .bool c)
    (h1 : c = true → TL cx ops k (o :: rest) ((t, .bool true) :: ρ) ds Γ) (h2 : c = false → TL cx ops k (o :: rest) ((t, .bool false) :: ρ) ds Γ) : TL cx ops k (o :: rest) ρ ds Γ := .cases t e h1 h2
end
theorem i64_in {x : Int} (h : -9223372036854775808 ≤ x) (h' : x ≤ 9223372036854775807) : IntKind.i64.wrap x = x := by
  simp only [IntKind.wrap, IntKind.bits, IntKind.signed, Bool.true_and]
  split <;> simp_all <;> omega
theorem i64_succ (i : Nat) (h : i < 4611686018427387904) : IntKind.i64.wrap ((i : Int) + 1) = ((i + 1 : Nat) : Int) := by
  rw [i64_in (by omega) (by omega)]; omega
theorem u64_in {x : Int} (h : 0 ≤ x) (h' : x ≤ 18446744073709551615) : IntKind.u64.wrap x = x := by
  simp only [IntKind.wrap, IntKind.bits, IntKind.signed, Bool.false_and]
  simp; omega
theorem u32_in {x : Int} (h : 0 ≤ x) (h' : x ≤ 4294967295) : IntKind.u32.wrap x = x := by
  simp only [IntKind.wrap, IntKind.bits, IntKind.signed, Bool.false_and]
  simp; omega
theorem u8_in {x : Int} (h : 0 ≤ x) (h' : x ≤ 255) : IntKind.u8.wrap x = x := by
  simp only [IntKind.wrap, IntKind.bits, IntKind.signed, Bool.false_and]
  simp; omega
end Go.Proofs.Ythbcfamfaicneaa.E
