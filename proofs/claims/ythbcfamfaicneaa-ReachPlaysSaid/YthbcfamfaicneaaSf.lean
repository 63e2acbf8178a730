/- MY OWN LAYER, TWELFTH PART: range over a function. P is a variable. -/
import Derived.Test.YthbcfamfaicneaaSy
import Derived.RangeFuncRecord
namespace Go.Proofs.Ythbcfamfaicneaa.E
open Go Go.RowKit

/-- What a loop over a function keeps: how many temporaries, which, of which function; where yield's arguments go; the codes; the block for deferred calls. -/
structure LD where
  n : Nat
  ρ : Env
  f : FuncId
  ps : Array Tmp
  as : Code
  body : Code
  df : Nat
/-- The record of a loop. -/
def loopA (l : Nat) (D : LD) (st : LoopState) (pend : Option Code) : HP := fun m => ∃ tmps, Rp D.n D.ρ [] ⟨tmps, []⟩ ∧ pt l (.loop { state := st, pending := pend, fn := D.f, tmps := tmps, params := D.ps, assign := D.as, body := D.body, defers := D.df }) m
def dfA (r : Nat) : HP := pt r (.deferred (some []))
def mark (r : Nat) : Deferred := { target := .collected r, args := #[] }
def putEnv : List Nat → List Value → Env → Env
  | p :: ps, v :: vs, ρ => putEnv ps vs ((p, v) :: ρ)
  | _, _, ρ => ρ
theorem rp_putEnv {n : Nat} {ds : List Deferred} : ∀ (ps : List Nat) (vs : List Value) (ρ : Env) (tmps : Array Value), (ps.all fun p => Nat.blt p n) = true → Rp n ρ ds ⟨tmps, ds⟩ →
    Rp n (putEnv ps vs ρ) ds ⟨(ps.zip vs).foldl (fun t x => t.setIfInBounds x.1 x.2) tmps, ds⟩
  | [], _, ρ, tmps, _, h => by cases ‹List Value› <;> exact h
  | _ :: _, [], ρ, tmps, _, h => h
  | p :: ps, v :: vs, ρ, tmps, hp, h => by
    simp only [List.all_cons, Bool.and_eq_true] at hp
    exact rp_putEnv ps vs ((p, v) :: ρ) (tmps.setIfInBounds p v) hp.2 (h.put p v hp.1)

/-- ONE ROUND, from a context: it answers whether the loop goes on. -/
def Rnd (P : Program) (l : Nat) (D : LD) (vs : List Value) (Γ : List HP) (R : Bool → List HP → Prop) : Prop :=
  ∀ tmps, Rp D.n D.ρ [] ⟨tmps, []⟩ → ∀ E w, Sat E Γ w → ∀ c cs, ∃ t w', (∃ Γ', R t Γ' ∧ Sat E Γ' w') ∧
    Steps P (lone (Frame.round l D.f ((D.ps.zip vs.toArray).foldl (fun tmps (t, a) => tmps.setIfInBounds t a) tmps) D.as D.body .normal) (c :: cs) w) (lone (c.finish (.bool t)) cs w')
theorem Rnd.mono {P : Program} {l : Nat} {D : LD} {vs : List Value} {Γ : List HP} {R R' : Bool → List HP → Prop} (h : Rnd P l D vs Γ R) (hr : ∀ t Γ', R t Γ' → R' t Γ') : Rnd P l D vs Γ R' :=
  fun tmps ht E w hs c cs => let ⟨t, w', ⟨Γ', h1, h2⟩, h3⟩ := h tmps ht E w hs c cs; ⟨t, w', ⟨Γ', hr _ _ h1, h2⟩, h3⟩
theorem Rnd.imp {P : Program} {l : Nat} {D : LD} {vs : List Value} {Γ Δ : List HP} {R : Bool → List HP → Prop} (h : Rnd P l D vs Δ R) (hk : ∀ m, all Γ m → all Δ m) : Rnd P l D vs Γ R :=
  fun tmps ht E w hs => h tmps ht E w (hs.imp hk)
theorem Rnd.enter {P : Program} {l : Nat} {D : LD} {vs : List Value} {Γ : List HP} {R : Bool → List HP → Prop} {fn : Func} (hfn : P.funcs[D.f]? = some fn) (hps : (D.ps.toList.all fun p => Nat.blt p D.n) = true)
    (h : ∀ E, TK ⟨P, E, D.n, D.f, fun e Γ' => ∃ t, e = .returned (.bool t) ∧ R t Γ', fn, hfn, some (some l)⟩ [.code D.as, .beginRound, .code D.body] (putEnv D.ps.toList vs D.ρ) [] Γ) : Rnd P l D vs Γ R := by
  intro tmps ht E w hs c cs
  have h1 := rp_putEnv D.ps.toList vs D.ρ tmps hps ht
  obtain ⟨e, w', ⟨Γ', ⟨t, he, hR⟩, hs'⟩, ho⟩ := h E _ w h1 hs (c :: cs)
  obtain ⟨v, hv, hst⟩ := ho c cs rfl
  rw [he] at hv
  injection hv with hv
  subst hv
  refine ⟨t, w', ⟨Γ', hR, hs'⟩, ?_⟩
  have e1 : (D.ps.zip vs.toArray).foldl (fun (tmps : Array Value) (x : Tmp × Value) => tmps.setIfInBounds x.1 x.2) tmps = (D.ps.toList.zip vs).foldl (fun t x => t.setIfInBounds x.1 x.2) tmps := by
    rw [← Array.foldl_toList, Array.toList_zip]
  have e2 : Frame.round l D.f ((D.ps.zip vs.toArray).foldl (fun (tmps : Array Value) (x : Tmp × Value) => tmps.setIfInBounds x.1 x.2) tmps) D.as D.body .normal =
      (Cx.b ⟨P, E, D.n, D.f, fun e Γ' => ∃ t, e = .returned (.bool t) ∧ R t Γ', fn, hfn, some (some l)⟩).atR ⟨(D.ps.toList.zip vs).foldl (fun t x => t.setIfInBounds x.1 x.2) tmps, []⟩ [.code D.as, .beginRound, .code D.body] := by
    rw [e1]; simp [Frame.round, Frame.atR, Cx.b, Cx.rd]
  exact e2 ▸ hst

theorem Rnd.enterD {P : Program} {l n : Nat} {D : LD} {ρ : Env} {f r : Nat} {ps : Array Tmp} {as body : Code} {vs : List Value} {Γ : List HP} {R : Bool → List HP → Prop} {fn : Func} (hD : D = ⟨n, ρ, f, ps, as, body, r⟩) (hfn : P.funcs[f]? = some fn) (hps : (ps.toList.all fun p => Nat.blt p n) = true)
    (h : ∀ E, TK ⟨P, E, n, f, fun e Γ' => ∃ t, e = .returned (.bool t) ∧ R t Γ', fn, hfn, some (some l)⟩ [.code as, .beginRound, .code body] (putEnv ps.toList vs ρ) [] Γ) : Rnd P l D vs Γ R := by
  subst hD
  exact Rnd.enter hfn hps h
theorem Sat.loop {E : World} {Γ : List HP} {w : World} (h : Sat E Γ w) {l i : Nat} {D : LD} {st : LoopState} {pend : Option Code} (hi : Γ[i]? = some (loopA l D st pend)) :
    ∃ tmps, Rp D.n D.ρ [] ⟨tmps, []⟩ ∧ w.heap[l]? = some (.loop { state := st, pending := pend, fn := D.f, tmps := tmps, params := D.ps, assign := D.as, body := D.body, defers := D.df }) ∧
      ∀ st' pend', Sat E (Γ.set i (loopA l D st' pend')) (w.putObj l (.loop { state := st', pending := pend', fn := D.f, tmps := tmps, params := D.ps, assign := D.as, body := D.body, defers := D.df })) := by
  obtain ⟨tmps, ht, h1⟩ := h.at hi (X := Array Value) (φ := fun tmps => Rp D.n D.ρ [] ⟨tmps, []⟩) (K := fun tmps => pt l (.loop { state := st, pending := pend, fn := D.f, tmps := tmps, params := D.ps, assign := D.as, body := D.body, defers := D.df })) (fun m hm => hm)
  have hlt := (List.getElem?_eq_some_iff.1 hi).1
  have h2 : (Γ.set i (pt l (.loop { state := st, pending := pend, fn := D.f, tmps := tmps, params := D.ps, assign := D.as, body := D.body, defers := D.df })))[i]? = some (pt l (.loop { state := st, pending := pend, fn := D.f, tmps := tmps, params := D.ps, assign := D.as, body := D.body, defers := D.df })) := by simp [hlt]
  have hb := h1.block h2
  refine ⟨tmps, ht, hb, fun st' pend' => ?_⟩
  have hl : l < w.heap.size := (Array.getElem?_eq_some_iff.1 hb).1
  have h3 := h1.put (w' := w.putObj l (.loop { state := st', pending := pend', fn := D.f, tmps := tmps, params := D.ps, assign := D.as, body := D.body, defers := D.df })) h2 rfl rfl rfl (World.putObj_heap_same hl) (fun k hk q hq => (World.putObj_heap_other hk).trans hq)
  rw [List.set_set] at h3
  refine h3.imp fun m hm => ?_
  have h4 := all_set (Γ := Γ.set i (pt l (.loop { state := st', pending := pend', fn := D.f, tmps := tmps, params := D.ps, assign := D.as, body := D.body, defers := D.df }))) (K := loopA l D st' pend') (i := i) (by simp [hlt]) (fun q hq => ⟨tmps, ht, hq⟩) hm
  rwa [List.set_set] at h4

section
variable {cx : Cx} {ops : Array Oper} {K : Act → World → Prop} {rest : List Oper} {k : List Item} {ρ : Env} {ds : List Deferred} {Γ : List HP} {d : Nat} {ty : TypeId} {pos : String} {after : Array Edge}
/-- A call of yield. -/
theorem TL.yield {x : Operand} {xs : List Operand} {vs : List Value} {ts : Array TypeId} {l : Nat} {D : LD} {st : LoopState} {pend : Option Code} {R : Bool → List HP → Prop} (i : Nat) (hmd : cx.md = some none) (hi : Γ[i]? = some (loopA l D st pend)) (hd : Nat.blt d cx.n = true)
    (ex : ev ρ x = .func (.yield l) #[] #[]) (ha : xs.map (ev ρ) = vs) (hsz : (vs.length == D.ps.size) = true) (hr : Rnd cx.P l D vs Γ R)
    (h : ∀ t Γ', R t Γ' → TL cx ops K rest ((d, .bool t) :: ρ) ds Γ') : TL cx ops K (⟨some d, .call ⟨.value x, xs.toArray, ts⟩, ty, pos, after, none⟩ :: rest) ρ ds Γ := by
  intro a w hrp hs
  obtain ⟨tmps, ht, hb, _⟩ := hs.loop hi
  have hrun : (execOp a.eval ⟨some d, .call ⟨.value x, xs.toArray, ts⟩, ty, pos, after, none⟩).run cx.P w = .ok (.round l D.f ((D.ps.zip vs.toArray).foldl (fun tmps (t, a) => tmps.setIfInBounds t a) tmps) D.as D.body) w := by
    rw [hrp.ev, ← ha]
    have h2 := run_yield (P := cx.P) (args := (xs.map (ev ρ)).toArray) hb (by simpa [← ha] using hsz)
    simp only [execOp, resolve, ex, Deferred.ofValue, Sem.run_bind, Sem.run_pure, Result.andThen_ok, invoke, List.map_toArray]
    simpa using h2
  unfold wpL
  rw [hmd]
  show wpListIn cx.F 0 cx.P ops (Qk cx K) _ a w
  unfold wpListIn
  rw [if_pos (by rfl)]
  refine ⟨fun _ _ => trivial, ?_⟩
  have hF : cx.F.round = none := by unfold Cx.F Cx.rd; rw [hmd]
  rw [hF, Oper.semAt_none, hrun]
  refine ⟨fun h => (by cases h), trivial, fun c cs _ => ?_⟩
  obtain ⟨t, w', ⟨Γ', h1, h2⟩, h3⟩ := hr tmps ht cx.E w hs c cs
  refine ⟨.returned (.bool t), w', ?_, ?_⟩
  · have h4 := h t Γ' h1 _ _ (hrp.put d (.bool t) hd) h2
    unfold wpL at h4
    rw [hmd] at h4
    exact h4
  · exact (stepsIn_wide (P := cx.P)).2 h3
theorem TK.begin {l : Nat} {D : LD} {pend : Option Code} {Δ : List HP} (i : Nat) (hmd : cx.rd = some l) (hi : Γ[i]? = some (loopA l D .ready pend)) (hΔ : Γ.set i (loopA l D .busy pend) = Δ) (h : TK cx k ρ ds Δ) : TK cx (.beginRound :: k) ρ ds Γ := by
  subst hΔ
  intro a w hr hs
  obtain ⟨tmps, ht, hb, hput⟩ := hs.loop hi
  exact (h a _ hr (hput .busy pend)).step fun cs => .one (stepR_beginRound hmd (run_beginRound hb rfl))
theorem TK.roundEnd {l : Nat} {D : LD} {st : LoopState} {pend : Option Code} (i : Nat) (hmd : cx.rd = some l) (hi : Γ[i]? = some (loopA l D st pend)) (h : cx.R (.returned (.bool true)) (Γ.set i (loopA l D .ready none))) : TK cx [] ρ [] Γ := by
  intro a w hr hs cs
  obtain ⟨tmps, ht, hb, hput⟩ := hs.loop hi
  refine ⟨_, _, ⟨_, h, hput .ready none⟩, ?_⟩
  unfold Out
  rw [hmd]
  rintro c cs' rfl
  exact ⟨_, rfl, .one (stepR_round_end hmd rfl (run_endRound none hb))⟩
theorem TK.roundRet {l : Nat} {D : LD} {st : LoopState} {pend : Option Code} (i : Nat) (hmd : cx.rd = some l) (hi : Γ[i]? = some (loopA l D st pend)) (h : cx.R (.returned (.bool false)) (Γ.set i (loopA l D .done (some .ret)))) : TK cx (.code .ret :: k) ρ [] Γ := by
  intro a w hr hs cs
  obtain ⟨tmps, ht, hb, hput⟩ := hs.loop hi
  refine ⟨_, _, ⟨_, h, hput .done (some .ret)⟩, ?_⟩
  unfold Out
  rw [hmd]
  rintro c cs' rfl
  exact ⟨_, rfl, .one (stepR_round_ret hmd rfl (run_endRound (some .ret) hb))⟩
theorem TK.roundExit {l id : Nat} {D : LD} {st : LoopState} {pend : Option Code} (i : Nat) (hmd : cx.rd = some l) (hi : Γ[i]? = some (loopA l D st pend)) (hx : exitTo id k = none) (h : cx.R (.returned (.bool false)) (Γ.set i (loopA l D .done (some (.exit id))))) : TK cx (.code (.exit id) :: k) ρ [] Γ := by
  intro a w hr hs cs
  obtain ⟨tmps, ht, hb, hput⟩ := hs.loop hi
  refine ⟨_, _, ⟨_, h, hput .done (some (.exit id))⟩, ?_⟩
  unfold Out
  rw [hmd]
  rintro c cs' rfl
  exact ⟨_, rfl, .one (stepR_round_exit hmd rfl hx (run_endRound (some (.exit id)) hb))⟩
/-- THE STATEMENT. -/
theorem TK.rangeF {g : Operand} {ps : Array Tmp} {as body : Code} {gf : FuncId} {first cap : List Value} {RI : Nat → Nat → LD → Value → List HP → Prop} (hrd : cx.rd = none) (hg : ev ρ g = .func (.func gf) first.toArray cap.toArray) (hc : Callable cx.P gf)
    (hit : ∀ l r D, D = ⟨cx.n, ρ, cx.f, ps, as, body, r⟩ → FnV cx.P gf (first ++ Value.func (.yield l) #[] #[] :: cap) (loopA l D .ready none :: dfA r :: Γ) (RI l r D))
    (h : ∀ l r D v Γ', D = ⟨cx.n, ρ, cx.f, ps, as, body, r⟩ → RI l r D v Γ' → ∃ i st pend, Γ'[i]? = some (loopA l D st pend) ∧ st ≠ .busy ∧ TK cx ((pend.map Item.code).toList ++ k) ρ (mark r :: ds) (Γ'.eraseIdx i)) : TK cx (.code (.rangeFunc g ps as body) :: k) ρ ds Γ := by
  intro a w hr hs cs
  obtain ⟨fn, h1, h2, h3⟩ := hc
  have hbr : cx.b.roundOf = none := hrd
  have he := run_enterLoop_outer (P := cx.P) (w := w) cx.b.fn a.tmps ps as body
  rw [← hbr] at he
  have hev : a.eval g = .func (.func gf) first.toArray cap.toArray := by rw [hr.ev]; exact hg
  have hres : (resolve a.eval (rangeCall g (w.heap.size + 1)) 0).run cx.P ((w.alloc (.deferred (some []))).alloc (.loop { state := .ready, pending := none, fn := cx.b.fn, tmps := a.tmps, params := ps, assign := as, body := body, defers := w.heap.size })) =
      .ok { target := .fn (.func gf) cap.toArray, args := (first ++ [Value.func (.yield (w.heap.size + 1)) #[] #[]]).toArray } ((w.alloc (.deferred (some []))).alloc (.loop { state := .ready, pending := none, fn := cx.b.fn, tmps := a.tmps, params := ps, assign := as, body := body, defers := w.heap.size })) := by
    have e1 : (#[Operand.const (Value.func (.yield (w.heap.size + 1)) #[] #[])]).map a.eval = #[Value.func (.yield (w.heap.size + 1)) #[] #[]] := by simp [Act.eval]
    simp only [resolve, hev, e1, Deferred.ofValue, Sem.run_pure]
    simp
  have hinv : (invoke (.fn (.func gf) cap.toArray) (first ++ [Value.func (.yield (w.heap.size + 1)) #[] #[]]).toArray).run cx.P ((w.alloc (.deferred (some []))).alloc (.loop { state := .ready, pending := none, fn := cx.b.fn, tmps := a.tmps, params := ps, assign := as, body := body, defers := w.heap.size })) =
      .ok (.enter gf (first ++ Value.func (.yield (w.heap.size + 1)) #[] #[] :: cap).toArray) ((w.alloc (.deferred (some []))).alloc (.loop { state := .ready, pending := none, fn := cx.b.fn, tmps := a.tmps, params := ps, assign := as, body := body, defers := w.heap.size })) := by
    have h2' : ¬ fn.name = "runtime.NumGoroutine" := by simpa using h2
    have h3' : ¬ fn.body = none := by intro h; rw [h] at h3; cases h3
    simp [invoke, callFunc, h1, h2', h3', program, Sem.run]
  have henter := stepR_rangeFunc (P := cx.P) (b := cx.b) (a := a) (k := k) (cs := cs) (w := w) he hres hinv
  have hs1 : Sat cx.E (loopA (w.heap.size + 1) ⟨cx.n, ρ, cx.f, ps, as, body, w.heap.size⟩ .ready none :: dfA w.heap.size :: Γ) ((w.alloc (.deferred (some []))).alloc (.loop { state := .ready, pending := none, fn := cx.b.fn, tmps := a.tmps, params := ps, assign := as, body := body, defers := w.heap.size })) := by
    have h5 := (hs.alloc (.deferred (some []))).alloc (.loop { state := .ready, pending := none, fn := cx.b.fn, tmps := a.tmps, params := ps, assign := as, body := body, defers := w.heap.size })
    rw [World.size_alloc] at h5
    exact h5.imp fun m hm => sep_mono hm (fun q hq => ⟨a.tmps, ⟨hr.size, hr.get, rfl⟩, hq⟩) (fun _ => id)
  obtain ⟨e, w3, fr, ⟨Γ', ⟨v, rfl, hRI⟩, hs3⟩, hsteps, hfn, hleave⟩ := hit (w.heap.size + 1) w.heap.size _ rfl cx.E _ hs1 (cx.b.atR { a with defers := [mark w.heap.size] ++ a.defers } (.inRangeFunc (w.heap.size + 1) :: k) :: cs)
  obtain ⟨i, st, pend, hi, hst, hT⟩ := h _ _ _ v Γ' rfl hRI
  obtain ⟨tmps, ht, hb, hput⟩ := hs3.loop hi
  have hend := run_endLoop (P := cx.P) hb hst
  have hs4 : Sat cx.E (Γ'.eraseIdx i) (w3.putObj (w.heap.size + 1) (.loop { state := .exhausted, pending := pend, fn := cx.f, tmps := tmps, params := ps, assign := as, body := body, defers := w.heap.size })) := by
    have h6 := (hput .exhausted pend).erase i
    rwa [List.eraseIdx_set_eq] at h6
  obtain ⟨e1, w5, hR5, ho⟩ := hT { a with defers := [mark w.heap.size] ++ a.defers } _ ⟨hr.size, hr.get, by show [mark w.heap.size] ++ a.defers = _; rw [hr.defers]; rfl⟩ hs4 cs
  refine ⟨e1, w5, hR5, ho.of_steps ?_⟩
  refine .head henter (Steps.trans hsteps (.head (step_leave_returned hleave) ?_))
  rw [finish_atR_inRangeFunc]
  exact .one (stepR_endRangeFunc hend)
theorem Steps.tail {P : Program} {m m1 m2 : Machine} (h : Steps P m m2) (hs : step P m = .next m1) (hne : m ≠ m2) : Steps P m1 m2 := by
  obtain ⟨n, hn⟩ := h
  cases n with
  | zero => simp [runN] at hn; exact (hne hn).elim
  | succ n => simp only [runN, hs] at hn; exact ⟨n, hn⟩
theorem lone_mode {fr fr' : Frame} {cs cs' : List Frame} {w w' : World} (h : lone fr cs w = lone fr' cs' w') : fr.mode = fr'.mode := by
  have h1 := congrArg Machine.gs h
  simp only [lone] at h1
  injection h1 with h1
  injection h1 with h1 _
  injection h1 with h1
  rw [h1]
/-- At the return: a mark is taken off (no call was deferred in a round). -/
theorem TK.unmark {r : Nat} (i : Nat) (hrd : cx.rd = none) (hno : ∀ Γ, ¬ cx.R .outgrown Γ) (hi : Γ[i]? = some (dfA r)) (h : TK cx (.code .ret :: k) ρ ds (Γ.eraseIdx i)) : TK cx (.code .ret :: k) ρ (mark r :: ds) Γ := by
  intro a w hr hs cs
  have hb := hs.block hi
  have hlt : r < w.heap.size := (Array.getElem?_eq_some_iff.1 hb).1
  have hs' : Sat cx.E (Γ.eraseIdx i) (w.putObj r (.deferred none)) := by
    have h6 := (hs.put (w' := w.putObj r (.deferred none)) hi rfl rfl rfl (World.putObj_heap_same hlt) (fun k hk q hq => (World.putObj_heap_other hk).trans hq)).erase i
    rwa [List.eraseIdx_set_eq] at h6
  obtain ⟨e, w1, hR, ho⟩ := h { a with defers := ds } _ ⟨hr.size, hr.get, rfl⟩ hs' cs
  refine ⟨e, w1, hR, ?_⟩
  unfold Out at ho ⊢
  rw [hrd] at ho ⊢
  obtain ⟨fr, hc, hf, hl⟩ := ho
  have s1 := stepR_ret (P := cx.P) (b := cx.b) (a := a) (k := k) (cs := cs) (w := w) hrd
  have s2 := step_collected (P := cx.P) (fr := { cx.b.atR a (.code .ret :: k) with mode := .returning }) (cs := cs) (w := w) (d := mark r) (r := r) (ds := ds) (by simp) hr.defers rfl (run_takeDeferred hb)
  have s3 := stepR_ret (P := cx.P) (b := cx.b) (a := { a with defers := ds }) (k := k) (cs := cs) (w := w.putObj r (.deferred none)) hrd
  have key : fr.mode ≠ .run → Steps cx.P (lone (cx.b.atR { a with defers := ds } (.code .ret :: k)) cs (w.putObj r (.deferred none))) (lone fr cs w1) → Steps cx.P (lone (cx.b.atR a (.code .ret :: k)) cs w) (lone fr cs w1) := by
    intro hm hst
    refine .head s1 (.head s2 (Steps.tail hst s3 fun he => hm ?_))
    exact (lone_mode he).symm
  refine ⟨fr, ?_, hf, hl⟩
  cases e with
  | returned v => exact key (by rw [hl.1]; simp) hc
  | panicked ch => exact key (by rw [hl.1]; simp) hc
  | outgrown => obtain ⟨Γ', h7, _⟩ := hR; exact (hno Γ' h7).elim
end
/-- A function's value: made. -/
theorem PV.makeFunc {P : Program} {ρ : Env} {S : World → Prop} {d : Nat} {ty : TypeId} {pos : String} {after : Array Edge} {f : FuncId} {first cap : List Operand} {fs cs : List Value} (hf : first.map (ev ρ) = fs) (hc : cap.map (ev ρ) = cs) :
    PV P ρ S ⟨some d, .makeFunc (.func f) first.toArray cap.toArray, ty, pos, after, none⟩ (.func (.func f) fs.toArray cs.toArray) := fun w _ => by
  subst hf; subst hc
  simp [execOp, Instr.makeFunc]
end Go.Proofs.Ythbcfamfaicneaa.E
