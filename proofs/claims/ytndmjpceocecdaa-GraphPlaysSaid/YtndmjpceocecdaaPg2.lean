/- My own texts, one behind the other: Sf Sb Sv. -/
import Derived.Test.YtndmjpceocecdaaPg1
import Derived.RangeFuncRecord
import Derived.Lib.AppendZerosOnto
import Derived.Laws.CopyRow
/- MY OWN LAYER, TWELFTH PART: range over a function. P is a variable. -/
namespace Go.Proofs.Ytndmjpceocecdaa.E
open Go Go.RowKit

/-- What a loop over a function keeps: how many temporaries, which, of which function; where yield's arguments go; the codes; the block for deferred calls. -/
structure LD where
  n : Nat
  ρ : Env
  f : FuncId
  ps : Array Tmp
  asn : Code
  body : Code
  df : Nat
/-- The record of a loop. -/
def loopA (l : Nat) (D : LD) (st : LoopState) (pend : Option Code) : HP := fun m => ∃ tmps, Rp D.n D.ρ [] ⟨tmps, []⟩ ∧ pt l (.loop { state := st, pending := pend, fn := D.f, tmps := tmps, params := D.ps, assign := D.asn, body := D.body, defers := D.df }) m
def dfA (r : Nat) : HP := pt r (.deferred (some []))
def mark (r : Nat) : Deferred := { target := .collected r, args := #[] }
def putEnv : List Nat → List Value → Env → Env
  | p :: ps, v :: vs, ρ => putEnv ps vs ((p, v) :: ρ)
  | _, _, ρ => ρ
theorem rp_putEnv {n : Nat} {ds : List Deferred} : ∀ (ps : List Nat) (vs : List Value) (ρ : Env) (tmps : Array Value), (ps.all fun p => Nat.blt p n) = true → Rp n ρ ds ⟨tmps, ds⟩ →
    Rp n (putEnv ps vs ρ) ds ⟨(ps.zip vs).foldl (fun t x => t.setIfInBounds x.1 x.2) tmps, ds⟩
  | [], _, ρ, tmps, _, h => by cases ‹List Value› <;> exact h
  | _ :: _, [], ρ, tmps, _, h => h
  | p :: ps, v :: vs, ρ, tmps, hp, h => by
    simp only [List.all_cons, Bool.and_eq_true] at hp
    exact rp_putEnv ps vs ((p, v) :: ρ) (tmps.setIfInBounds p v) hp.2 (h.put p v hp.1)

/-- ONE ROUND, from a context: it answers whether the loop goes on. -/
def Rnd (P : Program) (l : Nat) (D : LD) (vs : List Value) (Γ : List HP) (R : Bool → List HP → Prop) : Prop :=
  ∀ tmps, Rp D.n D.ρ [] ⟨tmps, []⟩ → ∀ E w, Sat E Γ w → ∀ c cs, ∃ t w', (∃ Γ', R t Γ' ∧ Sat E Γ' w') ∧
    Steps P (lone (Frame.round l D.f ((D.ps.zip vs.toArray).foldl (fun tmps (t, a) => tmps.setIfInBounds t a) tmps) D.asn D.body .normal) (c :: cs) w) (lone (c.finish (.bool t)) cs w')
theorem Rnd.mono {P : Program} {l : Nat} {D : LD} {vs : List Value} {Γ : List HP} {R R' : Bool → List HP → Prop} (h : Rnd P l D vs Γ R) (hr : ∀ t Γ', R t Γ' → R' t Γ') : Rnd P l D vs Γ R' :=
  fun tmps ht E w hs c cs => let ⟨t, w', ⟨Γ', h1, h2⟩, h3⟩ := h tmps ht E w hs c cs; ⟨t, w', ⟨Γ', hr _ _ h1, h2⟩, h3⟩
theorem Rnd.imp {P : Program} {l : Nat} {D : LD} {vs : List Value} {Γ Δ : List HP} {R : Bool → List HP → Prop} (h : Rnd P l D vs Δ R) (hk : ∀ m, all Γ m → all Δ m) : Rnd P l D vs Γ R :=
  fun tmps ht E w hs => h tmps ht E w (hs.imp hk)
theorem Rnd.enter {P : Program} {l : Nat} {D : LD} {vs : List Value} {Γ : List HP} {R : Bool → List HP → Prop} {fn : Func} (hfn : P.funcs[D.f]? = some fn) (hps : (D.ps.toList.all fun p => Nat.blt p D.n) = true)
    (h : ∀ E, TK ⟨P, E, D.n, D.f, fun e Γ' => ∃ t, e = .returned (.bool t) ∧ R t Γ', fn, hfn, some (some l)⟩ [.code D.asn, .beginRound, .code D.body] (putEnv D.ps.toList vs D.ρ) [] Γ) : Rnd P l D vs Γ R := by
  intro tmps ht E w hs c cs
  have h1 := rp_putEnv D.ps.toList vs D.ρ tmps hps ht
  obtain ⟨e, w', ⟨Γ', ⟨t, he, hR⟩, hs'⟩, ho⟩ := h E _ w h1 hs (c :: cs)
  obtain ⟨v, hv, hst⟩ := ho c cs rfl
  rw [he] at hv
  injection hv with hv
  subst hv
  refine ⟨t, w', ⟨Γ', hR, hs'⟩, ?_⟩
  have e1 : (D.ps.zip vs.toArray).foldl (fun (tmps : Array Value) (x : Tmp × Value) => tmps.setIfInBounds x.1 x.2) tmps = (D.ps.toList.zip vs).foldl (fun t x => t.setIfInBounds x.1 x.2) tmps := by
    rw [← Array.foldl_toList, Array.toList_zip]
  have e2 : Frame.round l D.f ((D.ps.zip vs.toArray).foldl (fun (tmps : Array Value) (x : Tmp × Value) => tmps.setIfInBounds x.1 x.2) tmps) D.asn D.body .normal =
      (Cx.b ⟨P, E, D.n, D.f, fun e Γ' => ∃ t, e = .returned (.bool t) ∧ R t Γ', fn, hfn, some (some l)⟩).atR ⟨(D.ps.toList.zip vs).foldl (fun t x => t.setIfInBounds x.1 x.2) tmps, []⟩ [.code D.asn, .beginRound, .code D.body] := by
    rw [e1]; simp [Frame.round, Frame.atR, Cx.b, Cx.rd]
  exact e2 ▸ hst

theorem Rnd.enterD {P : Program} {l n : Nat} {D : LD} {ρ : Env} {f r : Nat} {ps : Array Tmp} {asn body : Code} {vs : List Value} {Γ : List HP} {R : Bool → List HP → Prop} {fn : Func} (hD : D = ⟨n, ρ, f, ps, asn, body, r⟩) (hfn : P.funcs[f]? = some fn) (hps : (ps.toList.all fun p => Nat.blt p n) = true)
    (h : ∀ E, TK ⟨P, E, n, f, fun e Γ' => ∃ t, e = .returned (.bool t) ∧ R t Γ', fn, hfn, some (some l)⟩ [.code asn, .beginRound, .code body] (putEnv ps.toList vs ρ) [] Γ) : Rnd P l D vs Γ R := by
  subst hD
  exact Rnd.enter hfn hps h
theorem Sat.loop {E : World} {Γ : List HP} {w : World} (h : Sat E Γ w) {l i : Nat} {D : LD} {st : LoopState} {pend : Option Code} (hi : Γ[i]? = some (loopA l D st pend)) :
    ∃ tmps, Rp D.n D.ρ [] ⟨tmps, []⟩ ∧ w.heap[l]? = some (.loop { state := st, pending := pend, fn := D.f, tmps := tmps, params := D.ps, assign := D.asn, body := D.body, defers := D.df }) ∧
      ∀ st' pend', Sat E (Γ.set i (loopA l D st' pend')) (w.putObj l (.loop { state := st', pending := pend', fn := D.f, tmps := tmps, params := D.ps, assign := D.asn, body := D.body, defers := D.df })) := by
  obtain ⟨tmps, ht, h1⟩ := h.at hi (X := Array Value) (φ := fun tmps => Rp D.n D.ρ [] ⟨tmps, []⟩) (K := fun tmps => pt l (.loop { state := st, pending := pend, fn := D.f, tmps := tmps, params := D.ps, assign := D.asn, body := D.body, defers := D.df })) (fun m hm => hm)
  have hlt := (List.getElem?_eq_some_iff.1 hi).1
  have h2 : (Γ.set i (pt l (.loop { state := st, pending := pend, fn := D.f, tmps := tmps, params := D.ps, assign := D.asn, body := D.body, defers := D.df })))[i]? = some (pt l (.loop { state := st, pending := pend, fn := D.f, tmps := tmps, params := D.ps, assign := D.asn, body := D.body, defers := D.df })) := by simp [hlt]
  have hb := h1.block h2
  refine ⟨tmps, ht, hb, fun st' pend' => ?_⟩
  have hl : l < w.heap.size := (Array.getElem?_eq_some_iff.1 hb).1
  have h3 := h1.put (w' := w.putObj l (.loop { state := st', pending := pend', fn := D.f, tmps := tmps, params := D.ps, assign := D.asn, body := D.body, defers := D.df })) h2 rfl rfl rfl (World.putObj_heap_same hl) (fun k hk q hq => (World.putObj_heap_other hk).trans hq)
  rw [List.set_set] at h3
  refine h3.imp fun m hm => ?_
  have h4 := all_set (Γ := Γ.set i (pt l (.loop { state := st', pending := pend', fn := D.f, tmps := tmps, params := D.ps, assign := D.asn, body := D.body, defers := D.df }))) (K := loopA l D st' pend') (i := i) (by simp [hlt]) (fun q hq => ⟨tmps, ht, hq⟩) hm
  rwa [List.set_set] at h4

section
variable {cx : Cx} {ops : Array Oper} {K : Act → World → Prop} {rest : List Oper} {k : List Item} {ρ : Env} {ds : List Deferred} {Γ : List HP} {d : Nat} {ty : TypeId} {pos : String} {after : Array Edge}
/-- A call of yield. -/
theorem TL.yield {x : Operand} {xs : List Operand} {vs : List Value} {ts : Array TypeId} {l : Nat} {D : LD} {st : LoopState} {pend : Option Code} {R : Bool → List HP → Prop} (i : Nat) (hmd : cx.md = some none) (hi : Γ[i]? = some (loopA l D st pend)) (hd : Nat.blt d cx.n = true)
    (ex : ev ρ x = .func (.yield l) #[] #[]) (ha : xs.map (ev ρ) = vs) (hsz : (vs.length == D.ps.size) = true) (hr : Rnd cx.P l D vs Γ R)
    (h : ∀ t Γ', R t Γ' → TL cx ops K rest ((d, .bool t) :: ρ) ds Γ') : TL cx ops K (⟨some d, .call ⟨.value x, xs.toArray, ts⟩, ty, pos, after, none⟩ :: rest) ρ ds Γ := by
  intro a w hrp hs
  obtain ⟨tmps, ht, hb, _⟩ := hs.loop hi
  have hrun : (execOp a.eval ⟨some d, .call ⟨.value x, xs.toArray, ts⟩, ty, pos, after, none⟩).run cx.P w = .ok (.round l D.f ((D.ps.zip vs.toArray).foldl (fun tmps (t, a) => tmps.setIfInBounds t a) tmps) D.asn D.body) w := by
    rw [hrp.ev, ← ha]
    have h2 := run_yield (P := cx.P) (args := (xs.map (ev ρ)).toArray) hb (by simpa [← ha] using hsz)
    simp only [execOp, resolve, ex, Deferred.ofValue, Sem.run_bind, Sem.run_pure, Result.andThen_ok, invoke, List.map_toArray]
    simpa using h2
  unfold wpL
  rw [hmd]
  show wpListIn cx.F 0 cx.P ops (Qk cx K) _ a w
  unfold wpListIn
  rw [if_pos (by rfl)]
  refine ⟨fun _ _ => trivial, ?_⟩
  have hF : cx.F.round = none := by unfold Cx.F Cx.rd; rw [hmd]
  rw [hF, Oper.semAt_none, hrun]
  refine ⟨fun h => (by cases h), trivial, fun c cs _ => ?_⟩
  obtain ⟨t, w', ⟨Γ', h1, h2⟩, h3⟩ := hr tmps ht cx.E w hs c cs
  refine ⟨.returned (.bool t), w', ?_, ?_⟩
  · have h4 := h t Γ' h1 _ _ (hrp.put d (.bool t) hd) h2
    unfold wpL at h4
    rw [hmd] at h4
    exact h4
  · exact (stepsIn_wide (P := cx.P)).2 h3
theorem TK.begin {l : Nat} {D : LD} {pend : Option Code} {Δ : List HP} (i : Nat) (hmd : cx.rd = some l) (hi : Γ[i]? = some (loopA l D .ready pend)) (hΔ : Γ.set i (loopA l D .busy pend) = Δ) (h : TK cx k ρ ds Δ) : TK cx (.beginRound :: k) ρ ds Γ := by
  subst hΔ
  intro a w hr hs
  obtain ⟨tmps, ht, hb, hput⟩ := hs.loop hi
  exact (h a _ hr (hput .busy pend)).step fun cs => .one (stepR_beginRound hmd (run_beginRound hb rfl))
theorem TK.roundEnd {l : Nat} {D : LD} {st : LoopState} {pend : Option Code} (i : Nat) (hmd : cx.rd = some l) (hi : Γ[i]? = some (loopA l D st pend)) (h : cx.R (.returned (.bool true)) (Γ.set i (loopA l D .ready none))) : TK cx [] ρ [] Γ := by
  intro a w hr hs cs
  obtain ⟨tmps, ht, hb, hput⟩ := hs.loop hi
  refine ⟨_, _, ⟨_, h, hput .ready none⟩, ?_⟩
  unfold Out
  rw [hmd]
  rintro c cs' rfl
  exact ⟨_, rfl, .one (stepR_round_end hmd rfl (run_endRound none hb))⟩
theorem TK.roundRet {l : Nat} {D : LD} {st : LoopState} {pend : Option Code} (i : Nat) (hmd : cx.rd = some l) (hi : Γ[i]? = some (loopA l D st pend)) (h : cx.R (.returned (.bool false)) (Γ.set i (loopA l D .done (some .ret)))) : TK cx (.code .ret :: k) ρ [] Γ := by
  intro a w hr hs cs
  obtain ⟨tmps, ht, hb, hput⟩ := hs.loop hi
  refine ⟨_, _, ⟨_, h, hput .done (some .ret)⟩, ?_⟩
  unfold Out
  rw [hmd]
  rintro c cs' rfl
  exact ⟨_, rfl, .one (stepR_round_ret hmd rfl (run_endRound (some .ret) hb))⟩
theorem TK.roundExit {l id : Nat} {D : LD} {st : LoopState} {pend : Option Code} (i : Nat) (hmd : cx.rd = some l) (hi : Γ[i]? = some (loopA l D st pend)) (hx : exitTo id k = none) (h : cx.R (.returned (.bool false)) (Γ.set i (loopA l D .done (some (.exit id))))) : TK cx (.code (.exit id) :: k) ρ [] Γ := by
  intro a w hr hs cs
  obtain ⟨tmps, ht, hb, hput⟩ := hs.loop hi
  refine ⟨_, _, ⟨_, h, hput .done (some (.exit id))⟩, ?_⟩
  unfold Out
  rw [hmd]
  rintro c cs' rfl
  exact ⟨_, rfl, .one (stepR_round_exit hmd rfl hx (run_endRound (some (.exit id)) hb))⟩
/-- THE STATEMENT. -/
theorem TK.rangeF {g : Operand} {ps : Array Tmp} {asn body : Code} {gf : FuncId} {first cap : List Value} {RI : Nat → Nat → LD → Value → List HP → Prop} (hrd : cx.rd = none) (hg : ev ρ g = .func (.func gf) first.toArray cap.toArray) (hc : Callable cx.P gf)
    (hit : ∀ l r D, D = ⟨cx.n, ρ, cx.f, ps, asn, body, r⟩ → FnV cx.P gf (first ++ Value.func (.yield l) #[] #[] :: cap) (loopA l D .ready none :: dfA r :: Γ) (RI l r D))
    (h : ∀ l r D v Γ', D = ⟨cx.n, ρ, cx.f, ps, asn, body, r⟩ → RI l r D v Γ' → ∃ i st pend, Γ'[i]? = some (loopA l D st pend) ∧ st ≠ .busy ∧ TK cx ((pend.map Item.code).toList ++ k) ρ (mark r :: ds) (Γ'.eraseIdx i)) : TK cx (.code (.rangeFunc g ps asn body) :: k) ρ ds Γ := by
  intro a w hr hs cs
  obtain ⟨fn, h1, h2, h3⟩ := hc
  have hbr : cx.b.roundOf = none := hrd
  have he := run_enterLoop_outer (P := cx.P) (w := w) cx.b.fn a.tmps ps asn body
  rw [← hbr] at he
  have hev : a.eval g = .func (.func gf) first.toArray cap.toArray := by rw [hr.ev]; exact hg
  have hres : (resolve a.eval (rangeCall g (w.heap.size + 1)) 0).run cx.P ((w.alloc (.deferred (some []))).alloc (.loop { state := .ready, pending := none, fn := cx.b.fn, tmps := a.tmps, params := ps, assign := asn, body := body, defers := w.heap.size })) =
      .ok { target := .fn (.func gf) cap.toArray, args := (first ++ [Value.func (.yield (w.heap.size + 1)) #[] #[]]).toArray } ((w.alloc (.deferred (some []))).alloc (.loop { state := .ready, pending := none, fn := cx.b.fn, tmps := a.tmps, params := ps, assign := asn, body := body, defers := w.heap.size })) := by
    have e1 : (#[Operand.const (Value.func (.yield (w.heap.size + 1)) #[] #[])]).map a.eval = #[Value.func (.yield (w.heap.size + 1)) #[] #[]] := by simp [Act.eval]
    simp only [resolve, hev, e1, Deferred.ofValue, Sem.run_pure]
    simp
  have hinv : (invoke (.fn (.func gf) cap.toArray) (first ++ [Value.func (.yield (w.heap.size + 1)) #[] #[]]).toArray).run cx.P ((w.alloc (.deferred (some []))).alloc (.loop { state := .ready, pending := none, fn := cx.b.fn, tmps := a.tmps, params := ps, assign := asn, body := body, defers := w.heap.size })) =
      .ok (.enter gf (first ++ Value.func (.yield (w.heap.size + 1)) #[] #[] :: cap).toArray) ((w.alloc (.deferred (some []))).alloc (.loop { state := .ready, pending := none, fn := cx.b.fn, tmps := a.tmps, params := ps, assign := asn, body := body, defers := w.heap.size })) := by
    have h2' : ¬ fn.name = "runtime.NumGoroutine" := by simpa using h2
    have h3' : ¬ fn.body = none := by intro h; rw [h] at h3; cases h3
    simp [invoke, callFunc, h1, h2', h3', program, Sem.run]
  have henter := stepR_rangeFunc (P := cx.P) (b := cx.b) (a := a) (k := k) (cs := cs) (w := w) he hres hinv
  have hs1 : Sat cx.E (loopA (w.heap.size + 1) ⟨cx.n, ρ, cx.f, ps, asn, body, w.heap.size⟩ .ready none :: dfA w.heap.size :: Γ) ((w.alloc (.deferred (some []))).alloc (.loop { state := .ready, pending := none, fn := cx.b.fn, tmps := a.tmps, params := ps, assign := asn, body := body, defers := w.heap.size })) := by
    have h5 := (hs.alloc (.deferred (some []))).alloc (.loop { state := .ready, pending := none, fn := cx.b.fn, tmps := a.tmps, params := ps, assign := asn, body := body, defers := w.heap.size })
    rw [World.size_alloc] at h5
    exact h5.imp fun m hm => sep_mono hm (fun q hq => ⟨a.tmps, ⟨hr.size, hr.get, rfl⟩, hq⟩) (fun _ => id)
  obtain ⟨e, w3, fr, ⟨Γ', ⟨v, rfl, hRI⟩, hs3⟩, hsteps, hfn, hleave⟩ := hit (w.heap.size + 1) w.heap.size _ rfl cx.E _ hs1 (cx.b.atR { a with defers := [mark w.heap.size] ++ a.defers } (.inRangeFunc (w.heap.size + 1) :: k) :: cs)
  obtain ⟨i, st, pend, hi, hst, hT⟩ := h _ _ _ v Γ' rfl hRI
  obtain ⟨tmps, ht, hb, hput⟩ := hs3.loop hi
  have hend := run_endLoop (P := cx.P) hb hst
  have hs4 : Sat cx.E (Γ'.eraseIdx i) (w3.putObj (w.heap.size + 1) (.loop { state := .exhausted, pending := pend, fn := cx.f, tmps := tmps, params := ps, assign := asn, body := body, defers := w.heap.size })) := by
    have h6 := (hput .exhausted pend).erase i
    rwa [List.eraseIdx_set_eq] at h6
  obtain ⟨e1, w5, hR5, ho⟩ := hT { a with defers := [mark w.heap.size] ++ a.defers } _ ⟨hr.size, hr.get, by show [mark w.heap.size] ++ a.defers = _; rw [hr.defers]; rfl⟩ hs4 cs
  refine ⟨e1, w5, hR5, ho.of_steps ?_⟩
  refine .head henter (Steps.trans hsteps (.head (step_leave_returned hleave) ?_))
  rw [finish_atR_inRangeFunc]
  exact .one (stepR_endRangeFunc hend)
theorem Steps.tail {P : Program} {m m1 m2 : Machine} (h : Steps P m m2) (hs : step P m = .next m1) (hne : m ≠ m2) : Steps P m1 m2 := by
  obtain ⟨n, hn⟩ := h
  cases n with
  | zero => simp [runN] at hn; exact (hne hn).elim
  | succ n => simp only [runN, hs] at hn; exact ⟨n, hn⟩
theorem lone_mode {fr fr' : Frame} {cs cs' : List Frame} {w w' : World} (h : lone fr cs w = lone fr' cs' w') : fr.mode = fr'.mode := by
  have h1 := congrArg Machine.gs h
  simp only [lone] at h1
  injection h1 with h1
  injection h1 with h1 _
  injection h1 with h1
  rw [h1]
/-- At the return: a mark is taken off (no call was deferred in a round). -/
theorem TK.unmark {r : Nat} (i : Nat) (hrd : cx.rd = none) (hno : ∀ Γ, ¬ cx.R .outgrown Γ) (hi : Γ[i]? = some (dfA r)) (h : TK cx (.code .ret :: k) ρ ds (Γ.eraseIdx i)) : TK cx (.code .ret :: k) ρ (mark r :: ds) Γ := by
  intro a w hr hs cs
  have hb := hs.block hi
  have hlt : r < w.heap.size := (Array.getElem?_eq_some_iff.1 hb).1
  have hs' : Sat cx.E (Γ.eraseIdx i) (w.putObj r (.deferred none)) := by
    have h6 := (hs.put (w' := w.putObj r (.deferred none)) hi rfl rfl rfl (World.putObj_heap_same hlt) (fun k hk q hq => (World.putObj_heap_other hk).trans hq)).erase i
    rwa [List.eraseIdx_set_eq] at h6
  obtain ⟨e, w1, hR, ho⟩ := h { a with defers := ds } _ ⟨hr.size, hr.get, rfl⟩ hs' cs
  refine ⟨e, w1, hR, ?_⟩
  unfold Out at ho ⊢
  rw [hrd] at ho ⊢
  obtain ⟨fr, hc, hf, hl⟩ := ho
  have s1 := stepR_ret (P := cx.P) (b := cx.b) (a := a) (k := k) (cs := cs) (w := w) hrd
  have s2 := step_collected (P := cx.P) (fr := { cx.b.atR a (.code .ret :: k) with mode := .returning }) (cs := cs) (w := w) (d := mark r) (r := r) (ds := ds) (by simp) hr.defers rfl (run_takeDeferred hb)
  have s3 := stepR_ret (P := cx.P) (b := cx.b) (a := { a with defers := ds }) (k := k) (cs := cs) (w := w.putObj r (.deferred none)) hrd
  have key : fr.mode ≠ .run → Steps cx.P (lone (cx.b.atR { a with defers := ds } (.code .ret :: k)) cs (w.putObj r (.deferred none))) (lone fr cs w1) → Steps cx.P (lone (cx.b.atR a (.code .ret :: k)) cs w) (lone fr cs w1) := by
    intro hm hst
    refine .head s1 (.head s2 (Steps.tail hst s3 fun he => hm ?_))
    exact (lone_mode he).symm
  refine ⟨fr, ?_, hf, hl⟩
  cases e with
  | returned v => exact key (by rw [hl.1]; simp) hc
  | panicked ch => exact key (by rw [hl.1]; simp) hc
  | outgrown => obtain ⟨Γ', h7, _⟩ := hR; exact (hno Γ' h7).elim
end
/-- A function's value: made. -/
theorem PV.makeFunc {P : Program} {ρ : Env} {S : World → Prop} {d : Nat} {ty : TypeId} {pos : String} {after : Array Edge} {f : FuncId} {first cap : List Operand} {fs cs : List Value} (hf : first.map (ev ρ) = fs) (hc : cap.map (ev ρ) = cs) :
    PV P ρ S ⟨some d, .makeFunc (.func f) first.toArray cap.toArray, ty, pos, after, none⟩ (.func (.func f) fs.toArray cs.toArray) := fun w _ => by
  subst hf; subst hc
  simp [execOp, Instr.makeFunc]
end Go.Proofs.Ytndmjpceocecdaa.E

/- MY OWN LAYER, THIRTEENTH PART: byte slices, slices of slices, scopes. P is a variable. -/
namespace Go.Proofs.Ytndmjpceocecdaa.E
open Go Go.RowKit
section
variable {cx : Cx} {k : List Item} {ρ : Env} {ds : List Deferred} {Γ : List HP}
theorem TK.scope {c : Code} (h : TK cx (.code c :: .inScope c :: k) ρ ds Γ) : TK cx (.code (.scope c) :: k) ρ ds Γ := fun a w hr hs => (h a w hr hs).step fun cs => .one (step_lone_go (by simp [stepG, stepG.exec, Frame.atR]))
theorem TK.inScope {c : Code} (h : TK cx k ρ ds Γ) : TK cx (.inScope c :: k) ρ ds Γ := fun a w hr hs => (h a w hr hs).step fun cs => .one (step_lone_go (by simp [stepG, stepG.exec, Frame.atR]))
end

/-! ### a part of what a slice reads -/
inductive LoIs (ρ : Env) : Option Operand → Nat → Prop
  | none : LoIs ρ none 0
  | some {y : Operand} {q : IntKind} {i : Nat} (e : ev ρ y = .int q (i : Int)) : LoIs ρ (some y) i
inductive HiIs (ρ : Env) (n : Nat) : Option Operand → Nat → Prop
  | none : HiIs ρ n none n
  | some {y : Operand} {q : IntKind} {i : Nat} (e : ev ρ y = .int q (i : Int)) : HiIs ρ n (some y) i
theorem src_part {sz n i j c : Nat} {A : Option Addr} {news : List Value} {m : Mem} (h : srcAt sz A n news m) (hij : i ≤ j) (hjn : j ≤ n) (_ : j ≤ c) : srcAt sz (if c = i then A else A.map fun a => a.add (i * sz)) (j - i) ((news.drop (i * sz)).take ((j - i) * sz)) m := by
  obtain ⟨h1, h2⟩ := h
  have hl : ((news.drop (i * sz)).take ((j - i) * sz)).length = (j - i) * sz := by
    rw [List.length_take, List.length_drop, h1, ← Nat.sub_mul]
    exact Nat.min_eq_left (Nat.mul_le_mul_right _ (by omega))
  refine ⟨hl, ?_⟩
  by_cases hj : j - i = 0
  · left; rw [hj]; simp
  · rw [if_neg (by omega)]
    rcases h2 with rfl | ⟨b, o, rfl, h2⟩
    · left; simp
    · right
      refine ⟨b, o + i * sz, by simp [add_at], fun k v hk => ?_⟩
      rw [List.getElem?_take] at hk
      split at hk
      · rw [List.getElem?_drop] at hk
        have := h2 _ v hk
        rwa [← Nat.add_assoc] at this
      · cases hk
section
variable {cx : Cx} {ops : Array Oper} {K : Act → World → Prop} {rest : List Oper} {ρ : Env} {ds : List Deferred} {Γ : List HP} {d : Nat} {ty : TypeId} {pos : String} {after : Array Edge}
theorem run_slice {P : Program} {w : World} {t e : TypeId} {x : Operand} {lo hi : Option Operand} {A : Option Addr} {n c i j : Nat} {r r' : TR} (ea : ev ρ x = .slice A n c) (ht : TabOk P t r) (hq : r.und = .slice e) (ht' : TabOk P e r') (hlo : LoIs ρ lo i) (hhi : HiIs ρ n hi j) (hij : i ≤ j) (hc : j ≤ c) :
    (execOp (ev ρ) ⟨some d, .slice t x lo hi none, ty, pos, after, none⟩).run P w = .ok (.value (.slice (if c = i then A else A.map fun a => a.add (i * r'.size)) (j - i) (c - i))) w := by
  have h0 : (0 : Int) ≤ (i : Int) := by omega
  have h1 : (i : Int) ≤ (j : Int) := by omega
  have h2 : (j : Int) ≤ (c : Int) := by omega
  have h3 : (0 : Int) ≤ (j : Int) := by omega
  have h4 : i ≤ c := by omega
  cases hlo with
  | none =>
    cases hhi with
    | none => cases A <;> simp [execOp, Instr.sliceAt, Instr.slice, Instr.sliceBounds, ea, ht.run_und, hq, ht'.run_size]
    | some e2 => cases A <;> simp [execOp, Instr.sliceAt, Instr.slice, Instr.sliceBounds, Instr.sliceBound, asIntOf, ea, e2, ht.run_und, hq, ht'.run_size, h3, hc]
  | some e1 =>
    cases hhi with
    | none => cases A <;> simp [execOp, Instr.sliceAt, Instr.slice, Instr.sliceBounds, Instr.sliceBound, asIntOf, ea, e1, ht.run_und, hq, ht'.run_size, h0, hij]
    | some e2 => cases A <;> simp [execOp, Instr.sliceAt, Instr.slice, Instr.sliceBounds, Instr.sliceBound, asIntOf, ea, e1, e2, ht.run_und, hq, ht'.run_size, h0, h3, hij, hc]
/-- x[i:j], where x is only read. -/
theorem TL.sliceS {t e : TypeId} {x : Operand} {lo hi : Option Operand} {A : Option Addr} {n c i j : Nat} {news : List Value} {r r' : TR} (hd : Nat.blt d cx.n = true) (ea : ev ρ x = .slice A n c) (ht : TabOk cx.P t r) (hq : r.und = .slice e) (ht' : TabOk cx.P e r') (hlo : LoIs ρ lo i) (hhi : HiIs ρ n hi j)
    (hs : has Γ (srcAt r'.size A n news)) (hij : i ≤ j) (hjn : j ≤ n) (hnc : n ≤ c)
    (h : ∀ A', has Γ (srcAt r'.size A' (j - i) ((news.drop (i * r'.size)).take ((j - i) * r'.size))) → TL cx ops K rest ((d, .slice A' (j - i) (c - i)) :: ρ) ds Γ) : TL cx ops K (⟨some d, .slice t x lo hi none, ty, pos, after, none⟩ :: rest) ρ ds Γ :=
  .val hd (fun _ => run_slice ea ht hq ht' hlo hhi hij (Nat.le_trans hjn hnc)) (h _ (has_imp hs fun _ hm => src_part hm hij hjn (Nat.le_trans hjn hnc)))
theorem PV.sliceS {P : Program} {S : World → Prop} {t e : TypeId} {x : Operand} {lo hi : Option Operand} {A : Option Addr} {n c i j : Nat} {r r' : TR} (ea : ev ρ x = .slice A n c) (ht : TabOk P t r) (hq : r.und = .slice e) (ht' : TabOk P e r') (hlo : LoIs ρ lo i) (hhi : HiIs ρ n hi j) (hij : i ≤ j) (hc : j ≤ c) :
    PV P ρ S ⟨some d, .slice t x lo hi none, ty, pos, after, none⟩ (.slice (if c = i then A else A.map fun a => a.add (i * r'.size)) (j - i) (c - i)) := fun _ _ => run_slice ea ht hq ht' hlo hhi hij hc
/-- make, as a row. -/
theorem TL.makeRow {t e : TypeId} {x y : Operand} {q q' : IntKind} {n c : Nat} {r r' : TR} (hd : Nat.blt d cx.n = true) (ea : ev ρ x = .int q (n : Int)) (eb : ev ρ y = .int q' (c : Int)) (ht : TabOk cx.P t r) (hq : r.und = .slice e) (ht' : TabOk cx.P e r') (hsz : (r'.size == 1) = true) (hz : r'.zero.cells = #[r'.zero])
    (hle : n ≤ c) (hb : r'.bytes * c ≤ 281474976710656) (h63 : c ≤ maxLen) (h : ∀ b, TL cx ops K rest ((d, .slice (some ⟨b, 0, none⟩) n c) :: ρ) ds (row b (List.replicate c r'.zero) e :: Γ)) : TL cx ops K (⟨some d, .makeSlice t x y, ty, pos, after, none⟩ :: rest) ρ ds Γ :=
  .act (X := Nat) (φ := fun _ => True) (v := fun b => .slice (some ⟨b, 0, none⟩) n c) (Δ := fun b => row b (List.replicate c r'.zero) e :: Γ) hd (fun w hs => by
    obtain ⟨_, i, hi, h1, h2, h3⟩ := id ht'
    have hsz' : r'.size = 1 := by simpa using hsz
    have hrun := run_make (P := cx.P) w t e i r'.zero (by rw [ht.1, hq]) hi h3 q q' (n : Int) (c : Int) (by omega) (by omega) (by rw [h2, ← Int.natCast_mul]; omega) (by unfold maxLen at h63; omega)
    rw [Int.toNat_natCast, Int.toNat_natCast, h1, hsz', Nat.mul_one, hz, made_one] at hrun
    refine ⟨w.heap.size, _, trivial, hs.alloc (.cells (List.replicate c r'.zero).toArray e), ?_⟩
    rw [show execOp (ev ρ) ⟨some d, .makeSlice t x y, ty, pos, after, none⟩ = (do pure (.value (← Instr.makeSlice t (ev ρ x) (ev ρ y)))) from rfl, ea, eb]
    simp only [Sem.run_bind, hrun, Result.andThen_ok]
    rfl) (fun b _ => h b)
/-- append where there is room: into a row. -/
theorem TL.appRoom {t e : TypeId} {x y : Operand} {g n cap m c : Nat} {A : Option Addr} {cur cur' news : List Value} {r r' : TR} {Δ : List HP} (i : Nat) (hi : Γ[i]? = some (row g cur e)) (hd : Nat.blt d cx.n = true) (ht : TabOk cx.P t r) (hq : r.und = .slice e) (ht' : TabOk cx.P e r') (hsz : Nat.blt 0 r'.size = true)
    (ea : ev ρ x = .slice (some ⟨g, 0, none⟩) n cap) (eb : ev ρ y = .slice A m c) (hs : has Γ (srcAt r'.size A m news)) (h1 : ∀ u ∈ news, u.oneCell' = true) (hl : cur.length = cap * r'.size) (hroom : n + m ≤ cap) (hcur : cur.take (n * r'.size) ++ news ++ cur.drop (n * r'.size + news.length) = cur') (hΔ : Γ.set i (row g cur' e) = Δ)
    (h : TL cx ops K rest ((d, .slice (some ⟨g, 0, none⟩) (n + m) cap) :: ρ) ds Δ) : TL cx ops K (⟨some d, .call ⟨.builtin .append, #[x, y], #[t, t]⟩, ty, pos, after, none⟩ :: rest) ρ ds Γ := by
  subst hcur; subst hΔ
  refine .act (X := Unit) (φ := fun _ => True) (v := fun _ => .slice (some ⟨g, 0, none⟩) (n + m) cap) (Δ := fun _ => Γ.set i (row g (cur.take (n * r'.size) ++ news ++ cur.drop (n * r'.size + news.length)) e)) hd (fun w hS => ?_) (fun _ _ => h)
  obtain ⟨_, inf, hinf, h2, h3, hz⟩ := id ht'
  have hu : cx.P.underlying t = some (.slice e) := by rw [← hq]; exact ht.1
  have hsrc := src_of hS (tx := t) (e' := e) (c := c) hu (by simpa using hsz) hs h1
  have hblk := hS.block hi
  have hrun := run_append_room_row (P := cx.P) (ty := ty) w t t e inf hu hinf g n cap cur (.slice A m c) m news (by rw [h2]; exact hsrc) hblk hroom (by rw [h2]; exact hl)
  rw [h2] at hrun
  refine ⟨(), _, trivial, hS.put (w' := w.setRow g (cur.take (n * r'.size) ++ news ++ cur.drop (n * r'.size + news.length)).toArray) hi rfl rfl rfl (setRow_heap w g _ _ e _ hblk) (fun k hk q hq => (setRow_other w g _ k hk).trans hq), ?_⟩
  simp [execOp, resolve, invoke, builtin, ea, eb, hrun]
end
/-! ### unsigned numbers -/
theorem wrap_nat {q : IntKind} (hq : q.signed = false) (k : Nat) : q.wrap (k : Int) = ((k % 2 ^ q.bits : Nat) : Int) := by
  unfold IntKind.wrap
  rw [hq, Int.natCast_emod]
  simp
theorem bits_or {q : IntKind} {a b : Nat} (hq : q.signed = false) (ha : a < 2 ^ q.bits) (hb : b < 2 ^ q.bits) : bitsOf .or q a b = ((a ||| b : Nat) : Int) := by
  unfold bitsOf
  simp only [BitVec.ofInt_natCast, BitVec.toNat_or, BitVec.toNat_ofNat, Nat.mod_eq_of_lt ha, Nat.mod_eq_of_lt hb]
  rw [wrap_nat hq, Nat.mod_eq_of_lt (Nat.or_lt_two_pow ha hb)]
theorem bits_and {q : IntKind} {a b : Nat} (hq : q.signed = false) (ha : a < 2 ^ q.bits) (hb : b < 2 ^ q.bits) : bitsOf .and q a b = ((a &&& b : Nat) : Int) := by
  unfold bitsOf
  simp only [BitVec.ofInt_natCast, BitVec.toNat_and, BitVec.toNat_ofNat, Nat.mod_eq_of_lt ha, Nat.mod_eq_of_lt hb]
  rw [wrap_nat hq, Nat.mod_eq_of_lt (Nat.and_lt_two_pow _ hb)]
theorem bits_xor {q : IntKind} {a b : Nat} (hq : q.signed = false) (ha : a < 2 ^ q.bits) (hb : b < 2 ^ q.bits) : bitsOf .xor q a b = ((a ^^^ b : Nat) : Int) := by
  unfold bitsOf
  simp only [BitVec.ofInt_natCast, BitVec.toNat_xor, BitVec.toNat_ofNat, Nat.mod_eq_of_lt ha, Nat.mod_eq_of_lt hb]
  rw [wrap_nat hq, Nat.mod_eq_of_lt (Nat.xor_lt_two_pow ha hb)]
def b8 (n : Nat) : UInt8 := UInt8.ofNat n
theorem b8_nat {n : Nat} (h : n < 256) : (b8 n).toNat = n := UInt8.toNat_ofNat_of_lt' h
theorem b8_of (c : UInt8) : b8 c.toNat = c := UInt8.ofNat_toNat
theorem u8_wrap (k : Nat) : IntKind.u8.wrap (k : Int) = ((b8 k).toNat : Int) := by
  have : (b8 k).toNat = k % 256 := UInt8.toNat_ofNat'
  rw [this, wrap_nat rfl]; rfl
theorem u64_nat {k : Nat} (h : k < 18446744073709551616) : IntKind.u64.wrap (k : Int) = (k : Int) := u64_in (by omega) (by omega)
theorem i64_nat {k : Nat} (h : k < 9223372036854775808) : IntKind.i64.wrap (k : Int) = (k : Int) := i64_in (by omega) (by omega)
theorem u32_nat {k : Nat} (h : k < 4294967296) : IntKind.u32.wrap (k : Int) = (k : Int) := u32_in (by omega) (by omega)
section
variable {P : Program} {Sw : World → Prop} {ρ : Env} {d : Nat} {ty : TypeId} {pos : String} {after : Array Edge}
theorem PV.shrN {t t' : TypeId} {x y : Operand} {q q' : IntKind} {n m : Nat} {b : Int} (ea : ev ρ x = .int q (n : Int)) (eb : ev ρ y = .int q' b) (hb : b = (m : Int)) (hm : m ≤ q.bits) : PV P ρ Sw ⟨some d, .binOp .shr t x y t', ty, pos, after, none⟩ (.int q ((n / 2 ^ m : Nat) : Int)) := by
  subst hb
  have h := PV.shr (P := P) (S := Sw) (d := d) (ty := ty) (pos := pos) (after := after) (t := t) (t' := t') ea eb (by omega)
  have e : (n : Int).fdiv (2 ^ (min (m : Int).toNat q.bits)) = ((n / 2 ^ m : Nat) : Int) := by
    rw [Int.toNat_natCast, Nat.min_eq_left hm, Int.fdiv_eq_ediv_of_nonneg _ (Int.le_of_lt (Int.pow_pos (by decide)))]
    simp
  rwa [e] at h
theorem PV.andM {t t' : TypeId} {x y : Operand} {q : IntKind} {n k : Nat} {b : Int} (ea : ev ρ x = .int q (n : Int)) (eb : ev ρ y = .int q b) (hb : b = ((2 ^ k - 1 : Nat) : Int)) (hk : 2 ^ k - 1 < 2 ^ q.bits) (hq : q.signed = false) : PV P ρ Sw ⟨some d, .binOp .and t x y t', ty, pos, after, none⟩ (.int q ((n % 2 ^ k : Nat) : Int)) := by
  subst hb
  have h := PV.bits (P := P) (S := Sw) (d := d) (ty := ty) (pos := pos) (after := after) (t := t) (t' := t') (op := .and) rfl ea eb
  have e : bitsOf .and q (n : Int) ((2 ^ k - 1 : Nat) : Int) = ((n % 2 ^ k : Nat) : Int) := by
    unfold bitsOf
    simp only [BitVec.ofInt_natCast, BitVec.toNat_and, BitVec.toNat_ofNat, Nat.mod_eq_of_lt hk]
    rw [wrap_nat hq, Nat.and_two_pow_sub_one_eq_mod]
    have hk2 : 2 ^ k ≤ 2 ^ q.bits := by omega
    have hd : 2 ^ k ∣ 2 ^ q.bits := Nat.pow_dvd_pow 2 ((Nat.pow_le_pow_iff_right (by decide)).1 hk2)
    rw [Nat.mod_mod_of_dvd _ hd, Nat.mod_eq_of_lt (a := n % 2 ^ k) (Nat.lt_of_lt_of_le (Nat.mod_lt _ (Nat.two_pow_pos k)) hk2)]
  rwa [e] at h
theorem PV.shlN {t t' : TypeId} {x y : Operand} {q q' : IntKind} {n m : Nat} {b : Int} (ea : ev ρ x = .int q (n : Int)) (eb : ev ρ y = .int q' b) (hb : b = (m : Int)) (hm : m ≤ q.bits) (hq : q.signed = false) : PV P ρ Sw ⟨some d, .binOp .shl t x y t', ty, pos, after, none⟩ (.int q ((n * 2 ^ m % 2 ^ q.bits : Nat) : Int)) := by
  subst hb
  have h := PV.shl (P := P) (S := Sw) (d := d) (ty := ty) (pos := pos) (after := after) (t := t) (t' := t') ea eb (by omega)
  have e : q.wrap ((n : Int) * 2 ^ (min (m : Int).toNat q.bits)) = ((n * 2 ^ m % 2 ^ q.bits : Nat) : Int) := by
    rw [Int.toNat_natCast, Nat.min_eq_left hm, show (n : Int) * 2 ^ m = ((n * 2 ^ m : Nat) : Int) by simp, wrap_nat hq]
  rwa [e] at h
end
/-! ### bytes -/
/-- A byte slice of one's own. -/
def bsA (e : Nat) (v : Value) (l : List UInt8) : HP := own e 1 v l.length (bytesV l)
theorem bs_row {e b n : Nat} {l : List UInt8} {vs : List Value} {m : Mem} (hl : vs = bytesV l) (hn : n = l.length) (h63 : l.length ≤ maxLen) (h : row b vs e m) : bsA e (.slice (some ⟨b, 0, none⟩) n n) l m := by
  subst hl; subst hn
  exact ⟨by rw [bytesV_length, Nat.mul_one], .inr ⟨b, l.length, bytesV l, rfl, Nat.le_refl _, h63, by rw [bytesV_length, Nat.mul_one], by rw [Nat.mul_one]; exact List.take_of_length_le (by rw [bytesV_length]; exact Nat.le_refl _), h⟩⟩
theorem bs_nil (e : Nat) {m : Mem} (h : emp m) : bsA e (.slice none 0 0) [] m := own_nil e 1 h
theorem bs_src {e n c : Nat} {A : Option Addr} {l : List UInt8} {m : Mem} (h : bsA e (.slice A n c) l m) : srcAt 1 A n (bytesV l) m := by
  obtain ⟨hl, _⟩ := own_len h
  subst hl
  exact own_src h
theorem bs_shape {e : Nat} {v : Value} {l : List UInt8} {m : Mem} (h : bsA e v l m) : ∃ A c, v = .slice A l.length c ∧ l.length ≤ c := own_shape h
theorem has_bs {Γ : List HP} {e n c : Nat} {A : Option Addr} {l : List UInt8} (i : Nat) (hi : Γ[i]? = some (bsA e (.slice A n c) l)) : has Γ (srcAt 1 A n (bytesV l)) := has_at (up_src _ _ _ _) i hi fun _ hm => bs_src hm
theorem src_nil (sz : Nat) (A : Option Addr) {m : Mem} : srcAt sz A 0 [] m := ⟨by simp, .inl rfl⟩
theorem has_srcnil (sz : Nat) (A : Option Addr) {Γ : List HP} : has Γ (srcAt sz A 0 []) := fun _ _ => src_nil sz A
theorem bytesV_append (a b : List UInt8) : bytesV (a ++ b) = bytesV a ++ bytesV b := by simp [bytesV]
theorem bytesV_drop (a : List UInt8) (n : Nat) : bytesV (a.drop n) = (bytesV a).drop n := by simp [bytesV]
theorem bytesV_take (a : List UInt8) (n : Nat) : bytesV (a.take n) = (bytesV a).take n := by simp [bytesV]
theorem bytesV_get {a : List UInt8} {i : Nat} {c : UInt8} (h : a[i]? = some c) : (bytesV a)[i]? = some (.int .u8 (c.toNat : Int)) := by simp [bytesV, h]
theorem bytesV_set (a : List UInt8) (i : Nat) (c : UInt8) : bytesV (a.set i c) = (bytesV a).set i (.int .u8 (c.toNat : Int)) := by simp [bytesV, List.map_set]
/-- One byte of what is read. -/
theorem has_byte {Γ : List HP} {b o n i : Nat} {l : List UInt8} {c : UInt8} (h : has Γ (srcAt 1 (some ⟨b, o, none⟩) n (bytesV l))) (hi : l[i]? = some c) : has Γ (fun m => cellAt m b (o + i) (.int .u8 (c.toNat : Int))) := fun m hm => by
  obtain ⟨_, h2⟩ := h m hm
  rcases h2 with h2 | ⟨b', o', e, h2⟩
  · have : (bytesV l).length = 0 := by rw [h2]; rfl
    rw [bytesV_length] at this
    have := (List.getElem?_eq_some_iff.1 hi).1
    omega
  · injection e with e
    injection e with e1 e2 _
    subst e1; subst e2
    exact h2 i _ (bytesV_get hi)
theorem src_lenB {A : Option Addr} {n : Nat} {l : List UInt8} {m : Mem} (h : srcAt 1 A n (bytesV l) m) : n = l.length := by
  have := h.1
  rw [bytesV_length, Nat.mul_one] at this
  exact this.symm
theorem src_some {A : Option Addr} {n sz : Nat} {l : List Value} {m : Mem} (h : srcAt sz A n l m) (hl : 0 < l.length) : ∃ b o, A = some ⟨b, o, none⟩ := by
  rcases h.2 with rfl | ⟨b, o, e, _⟩
  · simp at hl
  · exact ⟨b, o, e⟩
theorem has_part {Γ : List HP} {A : Option Addr} {n i : Nat} {l : List UInt8} (h : has Γ (srcAt 1 A n (((bytesV l).drop (i * 1)).take (n * 1)))) (_ : i + n ≤ l.length) : has Γ (srcAt 1 A n (bytesV ((l.drop i).take n))) := by
  rw [bytesV_take, bytesV_drop]
  simpa only [Nat.mul_one] using h
/-- What comes back: bytes in memory of one's own. -/
def RB (e : Nat) (Γ : List HP) (l : List UInt8) : Value → List HP → Prop := fun v Γ' => ∃ A c, v = .slice A l.length c ∧ l.length ≤ c ∧ Γ' = bsA e (.slice A l.length c) l :: Γ
section
variable {cx : Cx} {ops : Array Oper} {K : Act → World → Prop} {rest : List Oper} {ρ : Env} {ds : List Deferred} {Γ : List HP} {d : Nat} {ty : TypeId} {pos : String} {after : Array Edge}
/-- append of bytes. -/
theorem TL.appB {t e : TypeId} {x y : Operand} {v : Value} {A : Option Addr} {m c : Nat} {l s : List UInt8} {r r' : TR} {H : HP} {Δ : Value → List HP} (i : Nat) (hi : Γ[i]? = some H) (hd : Nat.blt d cx.n = true) (ht : TabOk cx.P t r) (hq : r.und = .slice e) (ht' : TabOk cx.P e r') (hsz : r'.size = 1) (hb : r'.bytes = 1)
    (hzs : (r'.zero.cells.size == r'.size) = true) (ea : ev ρ x = v) (hH : ∀ m, H m → bsA e v l m) (eb : ev ρ y = .slice A m c) (hs : has Γ (srcAt 1 A m (bytesV s))) (hlim : l.length + s.length ≤ 140737488355328) (hΔ : ∀ v, Γ.set i (bsA e v (l ++ s)) = Δ v)
    (h : ∀ A' c', (l ++ s).length ≤ c' → TL cx ops K rest ((d, .slice A' (l ++ s).length c') :: ρ) ds (Δ (.slice A' (l ++ s).length c'))) : TL cx ops K (⟨some d, .call ⟨.builtin .append, #[x, y], #[t, t]⟩, ty, pos, after, none⟩ :: rest) ρ ds Γ := by
  refine .mem fun m0 hm0 => ?_
  have hm : m = s.length := src_lenB (hs m0 hm0)
  subst hm
  refine .append (r' := r') (n := l.length) (m := s.length) (cs := bytesV l) (news := bytesV s) i hi hd ht hq ht' (by rw [hsz]; rfl) hzs ea (by rw [hsz]; exact hH) eb (by rw [hsz]; exact hs) (bytesV_one s) (by rw [hb]; omega) (by unfold maxLen; omega) (Δ := fun v => Γ.set i (own e 1 v (l.length + s.length) (bytesV l ++ bytesV s))) (fun v => by rw [hsz]) fun A' c' hc => ?_
  have h1 := h A' c' (by rw [List.length_append]; exact hc)
  rw [← hΔ] at h1
  unfold bsA at h1
  rw [List.length_append, bytesV_append] at h1
  exact h1
end
theorem own_shrink {e sz n j c : Nat} {A : Option Addr} {cs : List Value} {m : Mem} (h : own e sz (.slice A n c) n cs m) (hj : j ≤ n) : own e sz (.slice A j c) j (cs.take (j * sz)) m := by
  obtain ⟨h1, h2⟩ := h
  have hl : (cs.take (j * sz)).length = j * sz := by rw [List.length_take, h1]; exact Nat.min_eq_left (Nat.mul_le_mul_right _ hj)
  refine ⟨hl, ?_⟩
  rcases h2 with ⟨hv, hn, hm⟩ | ⟨g, cap, cur, hv, hn, hcap, hl2, ht, hr⟩
  · injection hv with hA _ hc
    obtain rfl : j = 0 := by omega
    exact .inl ⟨by rw [hA, hc], rfl, hm⟩
  · injection hv with hA _ hc
    refine .inr ⟨g, cap, cur, by rw [hA, hc], by omega, hcap, hl2, ?_, hr⟩
    rw [← ht, List.take_take]
    congr 1
    exact (Nat.min_eq_left (Nat.mul_le_mul_right _ hj)).symm
section
variable {cx : Cx} {ops : Array Oper} {K : Act → World → Prop} {rest : List Oper} {ρ : Env} {ds : List Deferred} {Γ : List HP} {d : Nat} {ty : TypeId} {pos : String} {after : Array Edge}
/-- append(nil, make(.., k)...) -/
theorem TL.appZ {t tn e : TypeId} {x y : Operand} {k : Nat} {kq kn : IntKind} {r r' rn : TR} (hd : Nat.blt d cx.n = true) (ht : TabOk cx.P t r) (hq : r.und = .slice e) (ht' : TabOk cx.P e r') (htn : TabOk cx.P tn rn) (hqn : rn.und = .int kn) (hsz : r'.size = 1) (hb : r'.bytes ≤ 16) (hz : r'.zero.cells = #[r'.zero])
    (ea : ev ρ x = .slice none 0 0) (eb : ev ρ y = .int kq (k : Int)) (h0 : 0 < k) (hlim : k ≤ 1099511627776)
    (h : ∀ A c, k ≤ c → TL cx ops K rest ((d, .slice A k c) :: ρ) ds (own e 1 (.slice A k c) k (List.replicate k r'.zero) :: Γ)) : TL cx ops K (⟨some d, .call ⟨.builtin .append, #[x, y], #[t, tn]⟩, ty, pos, after, none⟩ :: rest) ρ ds Γ :=
  .act (X := Nat × Nat) (φ := fun p => k ≤ p.2) (v := fun p => .slice (some ⟨p.1, 0, none⟩) k p.2) (Δ := fun p => own e 1 (.slice (some ⟨p.1, 0, none⟩) k p.2) k (List.replicate k r'.zero) :: Γ) hd (fun w hS => by
    obtain ⟨_, i, hi, h1, h2, h3⟩ := id ht'
    have hbi : i.bytes ≤ 16 := by omega
    have hcap : Builtin.nextslicecap (0 + k) 0 * i.bytes ≤ 281474976710656 := growslice_fits (need := 0 + k) (old := 0) (bytes := i.bytes) (by omega) (by
      have : (0 + k) * i.bytes ≤ 1099511627776 * 16 := Nat.mul_le_mul (by omega) hbi
      omega)
    have hrun := Go.Lib.run_append_grow_zeros (P := cx.P) w t tn ty e i r'.zero kq kn (by rw [ht.1, hq]) (by rw [htn.1, hqn]) hi h3 none 0 0 [] (run_firstCells_none w.drew i.size 0 0 0) k h0 (by omega) (by omega) (by omega) (by
      have : k * i.bytes ≤ 1099511627776 * 16 := Nat.mul_le_mul hlim hbi
      omega) hcap
    have hge := grownCap_ge w (0 + k) 0 e
    rw [Nat.zero_add] at hrun hge
    have hrun2 : (execOp (ev ρ) ⟨some d, .call ⟨.builtin .append, #[x, y], #[t, tn]⟩, ty, pos, after, none⟩).run cx.P w = .ok (.value (.slice (some ⟨w.heap.size, 0, none⟩) k (grownCap w k 0 e))) (w.drew.alloc (.cells (#[] ++ Builtin.zeroCells r'.zero.cells k ++ Builtin.zeroCells r'.zero.cells (grownCap w k 0 e - k)) e)) := by
      simp only [execOp, resolve, invoke, builtin, List.map_toArray, List.map_cons, List.map_nil, ea, eb, Sem.run_bind, Sem.run_pure, Result.andThen_ok]
      rw [hrun]
      rfl
    refine ⟨(w.heap.size, grownCap w k 0 e), _, hge, ?_, hrun2⟩
    have h5 := hS.drew.alloc (.cells (#[] ++ Builtin.zeroCells r'.zero.cells k ++ Builtin.zeroCells r'.zero.cells (grownCap w k 0 e - k)) e)
    have h63 := grownCap_le_maxLen w k 0 e (by unfold maxLen; omega)
    have hzl : ∀ n, (Builtin.zeroCells r'.zero.cells n) = (List.replicate n r'.zero).toArray := by
      intro n
      rw [hz]
      apply Array.ext'
      apply List.ext_getElem?
      intro i
      simp [Builtin.zeroCells, List.getElem?_replicate]
      by_cases h : i < n <;> simp [h, Nat.mod_one]
    refine h5.imp fun m hm => sep_mono hm (fun q hq => ⟨by rw [List.length_replicate, Nat.mul_one], .inr ⟨_, grownCap w k 0 e, List.replicate (grownCap w k 0 e) r'.zero, rfl, hge, h63, by rw [List.length_replicate, Nat.mul_one], by rw [List.take_replicate, Nat.mul_one, Nat.min_eq_left hge], ?_⟩⟩) (fun _ => id)
    have e1 : (#[] ++ Builtin.zeroCells r'.zero.cells k ++ Builtin.zeroCells r'.zero.cells (grownCap w k 0 e - k)) = (List.replicate (grownCap w k 0 e) r'.zero).toArray := by
      rw [hzl, hzl]
      simp only [List.append_toArray, List.nil_append, List.replicate_append_replicate]
      rw [show k + (grownCap w k 0 e - k) = grownCap w k 0 e by omega]
    rw [e1] at hq
    exact hq) (fun p hp => h _ p.2 hp)
end
section
variable {cx : Cx} {ops : Array Oper} {K : Act → World → Prop} {rest : List Oper} {ρ : Env} {ds : List Deferred} {Γ : List HP} {d : Nat} {ty : TypeId} {pos : String} {after : Array Edge}
/-- []byte("..") of a constant. -/
theorem TL.convConst {t e : TypeId} {x : Operand} {b n c : Nat} {l : List Value} {r r' : TR} {Δ : List HP} (i : Nat) (hi : Γ[i]? = some (row b l e)) (hd : Nat.blt d cx.n = true) (ea : ev ρ x = .slice (some ⟨b, 0, none⟩) n c) (ht : TabOk cx.P t r) (hq : r.und = .slice e) (ht' : TabOk cx.P e r') (hu : r'.und = .int .u8) (hΔ : Γ.set i (roB b l) = Δ)
    (h : TL cx ops K rest ((d, .slice (some ⟨b, 0, none⟩) n c) :: ρ) ds Δ) : TL cx ops K (⟨some d, .convert t t x, ty, pos, after, none⟩ :: rest) ρ ds Γ := by
  subst hΔ
  refine .act (X := Unit) (φ := fun _ => True) (v := fun _ => .slice (some ⟨b, 0, none⟩) n c) (Δ := fun _ => Γ.set i (roB b l)) hd (fun w hS => ?_) (fun _ _ => h)
  have hblk := hS.block hi
  have hsh : w.shape? b = some (e, l.length) := by unfold World.shape?; rw [hblk]; simp
  have hrun : (convert t t (.slice (some ⟨b, 0, none⟩) n c)).run cx.P w = .ok (.slice (some ⟨b, 0, none⟩) n c) (w.freeze ⟨b, l.length, none⟩ 1) := by
    simp [convert, ht.run_und, hq, ht'.run_und, hu, markStringish, shape, Go.freeze, Sem.run, hsh]
  have hlt : b < w.heap.size := (Array.getElem?_eq_some_iff.1 hblk).1
  have hfz : (w.freeze ⟨b, l.length, none⟩ 1).heap[b]? = some (.cells l.toArray e (l.length, l.length + 1)) := by
    have h1 : w.heap[b] = .cells l.toArray e (0, 0) := (Array.getElem?_eq_some_iff.1 hblk).2
    simp [World.freeze, Array.getElem?_modify, hblk]
  have hput := hS.put (w' := w.freeze ⟨b, l.length, none⟩ 1) hi (by simp [World.freeze]) (by simp [World.freeze]) (by simp [World.freeze]) hfz (fun k hk q hq => by simp [World.freeze, Array.getElem?_modify, Ne.symm hk, hq])
  have hrun2 : (execOp (ev ρ) ⟨some d, .convert t t x, ty, pos, after, none⟩).run cx.P w = .ok (.value (.slice (some ⟨b, 0, none⟩) n c)) (w.freeze ⟨b, l.length, none⟩ 1) := by simp [execOp, ea, hrun]
  refine ⟨(), _, trivial, hput.imp fun m hm => ?_, hrun2⟩
  have hl2 := (List.getElem?_eq_some_iff.1 hi).1
  have h4 := all_set (Γ := Γ.set i (pt b (.cells l.toArray e (l.length, l.length + 1)))) (K := roB b l) (H := pt b (.cells l.toArray e (l.length, l.length + 1))) (i := i) (by simp [hl2]) (fun q hq => ⟨[], e, _, by rw [List.append_nil]; exact hq⟩) hm
  rwa [List.set_set] at h4
theorem has_roB {Γ : List HP} {b n : Nat} {vs : List Value} (i : Nat) (hi : Γ[i]? = some (roB b vs)) (hn : n = vs.length) : has Γ (srcAt 1 (some ⟨b, 0, none⟩) n vs) := has_at (up_src _ _ _ _) i hi fun _ hm => roB_src hm hn
end
/-! ### reading of arguments: numbers without a sign, bytes -/
def rNat (q : IntKind) (m : Nat) : Rd Nat := ⟨1, fun n => [.int q (n : Int)], fun n _ => n ≤ m⟩
theorem reads_nat {P : Program} {t : TypeId} {r : TR} {q : IntKind} {m : Nat} (ht : TabOk P t r) (hq : r.und = .int q) (hs : r.size = 1) (h0 : q.min = 0) (hm : q.max = (m : Int)) : Reads P t (rNat q m) :=
  ⟨(reads_int ht hq hs).size, fun _ => rfl, fun _ _ _ _ h => h, fun enc w fuel cs x h => by
    obtain ⟨n, rfl, h1, h2⟩ := (reads_int ht hq hs).read enc w fuel cs x h
    rw [h0] at h1
    rw [hm] at h2
    obtain ⟨k, rfl⟩ := Int.eq_ofNat_of_zero_le h1
    exact ⟨k, rfl, Int.ofNat_le.1 h2⟩⟩
def rByte : Rd UInt8 := ⟨1, fun c => [.int .u8 (c.toNat : Int)], fun _ _ => True⟩
theorem reads_byte {P : Program} {t : TypeId} {r : TR} (ht : TabOk P t r) (hq : r.und = .int .u8) (hs : r.size = 1) : Reads P t rByte :=
  ⟨(reads_int ht hq hs).size, fun _ => rfl, fun _ _ _ _ h => h, fun enc w fuel cs x h => by
    obtain ⟨n, rfl, h1⟩ := (reads_nat (m := 255) ht hq hs rfl rfl).read enc w fuel cs x h
    have h2 : n ≤ 255 := h1
    refine ⟨b8 n, ?_, trivial⟩
    show [Value.int .u8 (n : Int)] = [Value.int .u8 ((b8 n).toNat : Int)]
    rw [b8_nat (by omega)]⟩
theorem bytes_flat (l : List UInt8) : l.flatMap rByte.cells = bytesV l := by
  induction l with
  | nil => rfl
  | cons x xs ih => rw [List.flatMap_cons, ih]; rfl
theorem bytes_src {s : Sl UInt8} {W : World} (h : (rSl rByte).ok s (memOf W)) : has [exact_ W] (srcAt 1 s.A s.l.length (bytesV s.l)) := by
  have h1 : srcAt rByte.sz s.A s.l.length (s.l.flatMap rByte.cells) (memOf W) := h.2.2.1
  rw [bytes_flat] at h1
  exact has_exact h1
end Go.Proofs.Ytndmjpceocecdaa.E

/- MY OWN LAYER, FOURTEENTH PART: words of 32 bits; parts of arrays and strings; copy. P is a variable. -/
namespace Go.Proofs.Ytndmjpceocecdaa.E
open Go Go.RowKit
/-- A word as a value. -/
def w32 (x : BitVec 32) : Value := .int .u32 (x.toNat : Int)
theorem w32_nat (n : Nat) : Value.int .u32 (IntKind.u32.wrap (n : Int)) = w32 (BitVec.ofNat 32 n) := by
  unfold w32
  rw [wrap_nat rfl, BitVec.toNat_ofNat]; rfl
section
variable {P : Program} {Sw : World → Prop} {ρ : Env} {d : Nat} {ty : TypeId} {pos : String} {after : Array Edge} {t t' : TypeId} {x y : Operand} {a b : BitVec 32}
theorem PV.addW (ea : ev ρ x = w32 a) (eb : ev ρ y = w32 b) : PV P ρ Sw ⟨some d, .binOp .add t x y t', ty, pos, after, none⟩ (w32 (a + b)) := by
  have h := PV.arith (P := P) (S := Sw) (d := d) (ty := ty) (pos := pos) (after := after) (t := t) (t' := t') (op := .add) ea eb rfl
  have e : Value.int .u32 (IntKind.u32.wrap ((a.toNat : Int) + (b.toNat : Int))) = w32 (a + b) := by
    rw [← Int.natCast_add, w32_nat]
    congr 1
  rwa [e] at h
theorem PV.xorW (ea : ev ρ x = w32 a) (eb : ev ρ y = w32 b) : PV P ρ Sw ⟨some d, .binOp .xor t x y t', ty, pos, after, none⟩ (w32 (a ^^^ b)) := by
  have h := PV.bits (P := P) (S := Sw) (d := d) (ty := ty) (pos := pos) (after := after) (t := t) (t' := t') (op := .xor) rfl ea eb
  have e : Value.int .u32 (bitsOf .xor .u32 (a.toNat : Int) (b.toNat : Int)) = w32 (a ^^^ b) := by
    rw [bits_xor rfl a.isLt b.isLt]; rfl
  rwa [e] at h
theorem PV.andW (ea : ev ρ x = w32 a) (eb : ev ρ y = w32 b) : PV P ρ Sw ⟨some d, .binOp .and t x y t', ty, pos, after, none⟩ (w32 (a &&& b)) := by
  have h := PV.bits (P := P) (S := Sw) (d := d) (ty := ty) (pos := pos) (after := after) (t := t) (t' := t') (op := .and) rfl ea eb
  have e : Value.int .u32 (bitsOf .and .u32 (a.toNat : Int) (b.toNat : Int)) = w32 (a &&& b) := by
    rw [bits_and rfl a.isLt b.isLt]; rfl
  rwa [e] at h
theorem PV.orW (ea : ev ρ x = w32 a) (eb : ev ρ y = w32 b) : PV P ρ Sw ⟨some d, .binOp .or t x y t', ty, pos, after, none⟩ (w32 (a ||| b)) := by
  have h := PV.bits (P := P) (S := Sw) (d := d) (ty := ty) (pos := pos) (after := after) (t := t) (t' := t') (op := .or) rfl ea eb
  have e : Value.int .u32 (bitsOf .or .u32 (a.toNat : Int) (b.toNat : Int)) = w32 (a ||| b) := by
    rw [bits_or rfl a.isLt b.isLt]; rfl
  rwa [e] at h
theorem PV.notW (ea : ev ρ x = w32 a) : PV P ρ Sw ⟨some d, .unOp .xor t x, ty, pos, after, none⟩ (w32 (~~~a)) := by
  have h := PV.compl (P := P) (S := Sw) (d := d) (ty := ty) (pos := pos) (after := after) (t := t) ea
  have e : Value.int .u32 (bitsOf .xor .u32 (if IntKind.u32.signed then -1 else IntKind.u32.max) (a.toNat : Int)) = w32 (~~~a) := by
    have : (if IntKind.u32.signed then -1 else IntKind.u32.max) = ((4294967295 : Nat) : Int) := rfl
    rw [this, bits_xor rfl (by decide) a.isLt]
    unfold w32
    congr 2
  rwa [e] at h
theorem PV.shlW {k : Nat} {q' : IntKind} {c : Int} (ea : ev ρ x = w32 a) (eb : ev ρ y = .int q' c) (hc : c = (k : Int)) (hk : k ≤ 32) : PV P ρ Sw ⟨some d, .binOp .shl t x y t', ty, pos, after, none⟩ (w32 (a <<< k)) := by
  have h := PV.shlN (P := P) (Sw := Sw) (d := d) (ty := ty) (pos := pos) (after := after) (t := t) (t' := t') (n := a.toNat) (m := k) ea eb hc hk rfl
  have e : Value.int .u32 ((a.toNat * 2 ^ k % 2 ^ IntKind.u32.bits : Nat) : Int) = w32 (a <<< k) := by
    unfold w32
    rw [BitVec.toNat_shiftLeft, Nat.shiftLeft_eq]; rfl
  rwa [e] at h
theorem PV.shrW {k : Nat} {q' : IntKind} {c : Int} (ea : ev ρ x = w32 a) (eb : ev ρ y = .int q' c) (hc : c = (k : Int)) (hk : k ≤ 32) : PV P ρ Sw ⟨some d, .binOp .shr t x y t', ty, pos, after, none⟩ (w32 (a >>> k)) := by
  have h := PV.shrN (P := P) (Sw := Sw) (d := d) (ty := ty) (pos := pos) (after := after) (t := t) (t' := t') (n := a.toNat) (m := k) ea eb hc hk
  have e : Value.int .u32 ((a.toNat / 2 ^ k : Nat) : Int) = w32 (a >>> k) := by
    unfold w32
    rw [BitVec.toNat_ushiftRight, Nat.shiftRight_eq_div_pow]
  rwa [e] at h
theorem PV.conv8W {c : UInt8} {r r' : TR} (ea : ev ρ x = .int .u8 (c.toNat : Int)) (ht : TabOk P t r) (ht' : TabOk P t' r') (hq : r'.und = .int .u32) : PV P ρ Sw ⟨some d, .convert t t' x, ty, pos, after, none⟩ (w32 (BitVec.ofNat 32 c.toNat)) := by
  have h := PV.conv (P := P) (S := Sw) (d := d) (ty := ty) (pos := pos) (after := after) ea ht ht' hq
  rwa [w32_nat] at h
theorem PV.convW8 {r r' : TR} (ea : ev ρ x = w32 a) (ht : TabOk P t r) (ht' : TabOk P t' r') (hq : r'.und = .int .u8) : PV P ρ Sw ⟨some d, .convert t t' x, ty, pos, after, none⟩ (.int .u8 ((b8 a.toNat).toNat : Int)) := by
  have h := PV.conv (P := P) (S := Sw) (d := d) (ty := ty) (pos := pos) (after := after) ea ht ht' hq
  rwa [u8_wrap] at h
/-- x[i] of an array that is a value. -/
theorem PV.indexArr {e n i : Nat} {q : IntKind} {vs : List Value} {v : Value} {r r' : TR} (ea : ev ρ x = .agg vs.toArray) (eb : ev ρ y = .int q (i : Int)) (ht : TabOk P t r) (hq : r.und = .array n e) (ht' : TabOk P e r') (hs : (r'.size == 1) = true) (hg : isAggD r'.und = false) (hi : i < n) (hv : vs[i]? = some v) : PV P ρ Sw ⟨some d, .index t x y, ty, pos, after, none⟩ v := fun w _ => by
  have hs1 : r'.size = 1 := by simpa using hs
  have h0 : (0 : Int) ≤ (i : Int) := by omega
  have h1 : (i : Int) < (n : Int) := by omega
  have hlt := (List.getElem?_eq_some_iff.1 hv).1
  have hex : (vs.toArray.extract i (i + 1)) = #[v] := by
    have := (List.getElem?_eq_some_iff.1 hv).2
    apply Array.ext'
    simp only [Array.toList_extract, List.extract, List.drop_eq_getElem_cons hlt, this]
    rw [show i + 1 - i = 1 by omega]
    rfl
  simp [execOp, Instr.index, asIntOf, ea, eb, ht.run_und, hq, ht'.run_size, hs1, hi, part, ht'.run_agg, hg, hv]
/-- a[i:j] of an array by its address. -/
theorem PV.sliceArr {e n i j b0 o : Nat} {lo hi : Option Operand} {r r' : TR} (ea : ev ρ x = .pointer (some ⟨b0, o, none⟩)) (ht : TabOk P t r) (hq : r.und = .array n e) (ht' : TabOk P e r') (hlo : LoIs ρ lo i) (hhi : HiIs ρ n hi j) (hij : i ≤ j) (hj : j ≤ n) :
    PV P ρ Sw ⟨some d, .slice t x lo hi none, ty, pos, after, none⟩ (.slice (some (if n = i then ⟨b0, o, none⟩ else ⟨b0, o + i * r'.size, none⟩)) (j - i) (n - i)) := fun w _ => by
  have h0 : (0 : Int) ≤ (i : Int) := by omega
  have h1 : (i : Int) ≤ (j : Int) := by omega
  have h2 : (j : Int) ≤ (n : Int) := by omega
  have h3 : (0 : Int) ≤ (j : Int) := by omega
  have h4 : i ≤ n := by omega
  cases hlo with
  | none =>
    cases hhi with
    | none => simp [execOp, Instr.sliceAt, Instr.sliceBounds, Instr.sureAddr, ea, ht.run_und, hq, ht'.run_size, add_at]
    | some e2 => simp [execOp, Instr.sliceAt, Instr.sliceBounds, Instr.sliceBound, asIntOf, Instr.sureAddr, ea, e2, ht.run_und, hq, ht'.run_size, h3, hj, add_at]
  | some e1 =>
    cases hhi with
    | none => simp [execOp, Instr.sliceAt, Instr.sliceBounds, Instr.sliceBound, asIntOf, Instr.sureAddr, ea, e1, ht.run_und, hq, ht'.run_size, h0, h4, add_at]
    | some e2 => simp [execOp, Instr.sliceAt, Instr.sliceBounds, Instr.sliceBound, asIntOf, Instr.sureAddr, ea, e1, e2, ht.run_und, hq, ht'.run_size, h0, h3, hij, hj, add_at]
/-- s[i:j] of a string. -/
theorem PV.sliceStr {i j : Nat} {l : List UInt8} {lo hi : Option Operand} {r : TR} (ea : ev ρ x = .string (S l)) (ht : TabOk P t r) (hq : r.und = .string) (hlo : LoIs ρ lo i) (hhi : HiIs ρ l.length hi j) (hij : i ≤ j) (hj : j ≤ l.length) :
    PV P ρ Sw ⟨some d, .slice t x lo hi none, ty, pos, after, none⟩ (.string (S ((l.drop i).take (j - i)))) := fun w _ => by
  have h0 : (0 : Int) ≤ (i : Int) := by omega
  have h1 : (i : Int) ≤ (j : Int) := by omega
  have h2 : (j : Int) ≤ (l.length : Int) := by omega
  have h3 : (0 : Int) ≤ (j : Int) := by omega
  have h4 : i ≤ l.length := by omega
  have hex : ∀ i j, i ≤ j → (S l).extract i j = S ((l.drop i).take (j - i)) := by
    intro i j _
    apply ByteArray.ext
    simp [S, ByteArray.data_extract]
  cases hlo with
  | none =>
    cases hhi with
    | none => simp [execOp, Instr.sliceAt, Instr.slice, Instr.sliceBounds, ea, ht.run_und, hq]
    | some e2 => simp [execOp, Instr.sliceAt, Instr.slice, Instr.sliceBounds, Instr.sliceBound, asIntOf, ea, e2, ht.run_und, hq, S_size, h3, hj, hex]
  | some e1 =>
    cases hhi with
    | none => simp [execOp, Instr.sliceAt, Instr.slice, Instr.sliceBounds, Instr.sliceBound, asIntOf, ea, e1, ht.run_und, hq, S_size, h0, h4, hex]
    | some e2 => simp [execOp, Instr.sliceAt, Instr.slice, Instr.sliceBounds, Instr.sliceBound, asIntOf, ea, e1, e2, ht.run_und, hq, S_size, h0, h3, hij, hj, hex]
end
section
variable {cx : Cx} {ops : Array Oper} {K : Act → World → Prop} {rest : List Oper} {ρ : Env} {ds : List Deferred} {Γ : List HP} {d : Nat} {ty : TypeId} {pos : String} {after : Array Edge}
/-- copy into a row, of what is read at a place that is there. -/
theorem TL.copyRow {t e t2 : TypeId} {x y : Operand} {g o n cap m c k : Nat} {A : Addr} {cur cur' news : List Value} {r r' : TR} {Δ : List HP} (i : Nat) (hi : Γ[i]? = some (row g cur t2)) (hd : Nat.blt d cx.n = true) (ht : TabOk cx.P t r) (hq : r.und = .slice e) (ht' : TabOk cx.P e r') (hsz : (r'.size == 1) = true)
    (ea : ev ρ x = .slice (some ⟨g, o, none⟩) n cap) (eb : ev ρ y = .slice (some A) m c) (hs : has Γ (srcAt 1 (some A) m news)) (h1 : ∀ u ∈ news, u.oneCell' = true) (hk : k = Nat.min m n) (hfit : o + k ≤ cur.length) (hcur : cur.take o ++ news.take k ++ cur.drop (o + k) = cur') (hΔ : Γ.set i (row g cur' t2) = Δ)
    (h : TL cx ops K rest ((d, .int .i64 (k : Int)) :: ρ) ds Δ) {ts : Array TypeId} (hts : ts[0]? = some t) (h2 : ts.size = 2) : TL cx ops K (⟨some d, .call ⟨.builtin .copy, #[x, y], ts⟩, ty, pos, after, none⟩ :: rest) ρ ds Γ := by
  subst hcur; subst hΔ
  refine .mem fun m0 hm0 => ?_
  have hlen : news.length = m := by have := (hs m0 hm0).1; omega
  have hkl : (news.take k).length = k := by rw [List.length_take, hlen, hk]; exact Nat.min_eq_left (Nat.min_le_left _ _)
  refine .act (X := Unit) (φ := fun _ => True) (v := fun _ => .int .i64 (k : Int)) (Δ := fun _ => Γ.set i (row g (cur.take o ++ news.take k ++ cur.drop (o + k)) t2)) hd (fun w hS => ?_) (fun _ _ => h)
  obtain ⟨_, inf, hinf, h5, _, _⟩ := id ht'
  have hu : cx.P.underlying t = some (.slice e) := by rw [← hq]; exact ht.1
  have hblk := hS.block hi
  have hsz1 : r'.size = 1 := by simpa using hsz
  have hrun := run_copy_row (P := cx.P) w t (ts.getD 1 0) ty e g o n cap A m c cur.toArray t2 (news.take k) hu (by rw [hinf]; simp [h5, hsz1]) hblk (by rw [hkl, hk])
    (fun j v hj => by
      rw [List.getElem?_take] at hj
      split at hj
      · obtain ⟨_, _, mm, hmm, hw⟩ := hS
        obtain ⟨_, h6⟩ := hs mm hmm
        rcases h6 with h6 | ⟨b, o', hA, hc⟩
        · rw [h6] at hj; cases hj
        · injection hA with hA
          subst hA
          rw [add_at]
          obtain ⟨cs, ee, fr, hb, hv⟩ := hc j v hj
          simp [World.cell?, hw _ _ hb, hv]
      · cases hj) (by rw [hkl]; simpa using hfit) (fun u hu => h1 u (List.mem_of_mem_take hu))
  rw [hkl] at hrun
  have hgo : goInt k = .int .i64 (k : Int) := rfl
  rw [hgo] at hrun
  have hts2 : ts = #[t, ts.getD 1 0] := by
    apply Array.ext
    · simp [h2]
    · intro j hj1 hj2
      have : j = 0 ∨ j = 1 := by simp at hj2; omega
      rcases this with rfl | rfl
      · have := (Array.getElem?_eq_some_iff.1 hts).2; simpa using this
      · simp [Array.getD, h2]
  have hrun2 : (execOp (ev ρ) ⟨some d, .call ⟨.builtin .copy, #[x, y], ts⟩, ty, pos, after, none⟩).run cx.P w = .ok (.value (.int .i64 (k : Int))) (w.setRow g (cur.take o ++ news.take k ++ cur.drop (o + k)).toArray) := by
    rw [hts2]
    simp only [execOp, resolve, invoke, builtin, List.map_toArray, List.map_cons, List.map_nil, ea, eb, Sem.run_bind, Sem.run_pure, Result.andThen_ok]
    simp only at hrun
    rw [hrun]
    rfl
  exact ⟨(), _, trivial, hS.put (w' := w.setRow g (cur.take o ++ news.take k ++ cur.drop (o + k)).toArray) hi rfl rfl rfl (setRow_heap w g _ _ t2 _ hblk) (fun k' hk' q hq => (setRow_other w g _ k' hk').trans hq), hrun2⟩
end
end Go.Proofs.Ytndmjpceocecdaa.E
