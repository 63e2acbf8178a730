/- MY OWN LAYER, FIFTH PART: literals, slicing, make, calls. P is a variable. -/
import Derived.Test.YthbcfamfaicneaaSp
import Derived.Lib.ConvBytes
namespace Go.Proofs.Ythbcfamfaicneaa.E
open Go Go.RowKit

def TabsOk (P : Program) (tab : List TR) : Prop := ∀ t r, tab[t]? = some r → TabOk P t r
/-- Where a struct's fields lie, and how many cells each has. -/
def placesOf (tab : List TR) : List Field → Option (List (Nat × Nat))
  | [] => some []
  | f :: fs => (tab[f.type]?).bind fun r => (placesOf tab fs).map fun l => (f.offset, r.size) :: l
theorem run_places {P : Program} {tab : List TR} (hT : TabsOk P tab) (w : World) : ∀ (fs : List Field) (pls : List (Nat × Nat)), placesOf tab fs = some pls →
    (fs.mapM (m := Sem) fun f => do pure (f.offset, ← sizeOf f.type)).run P w = .ok pls w
  | [], pls, h => by simp [placesOf] at h; subst h; simp
  | f :: fs, pls, h => by
    simp only [placesOf, Option.bind_eq_some_iff, Option.map_eq_some_iff] at h
    obtain ⟨r, hr, l, hl, rfl⟩ := h
    have ih := run_places hT w fs l hl
    simp only [List.mapM_cons, Sem.run_bind, (hT _ _ hr).run_size, Result.andThen_ok, Sem.run_pure, ih]
/-- The parts of a literal, as they are laid. -/
def partsOf (place : Nat → Option (Nat × Nat)) (ρ : Env) : List (Nat × Operand) → Option (List (Nat × Nat × List Value))
  | [] => some []
  | p :: ps => (place p.1).bind fun q => (partsOf place ρ ps).map fun l => (q.1, q.2, (ev ρ p.2).cells.toList) :: l
theorem parts_map {place : Nat → Option (Nat × Nat)} {ρ : Env} : ∀ (ps : List (Nat × Operand)) (qs : List (Nat × Nat × List Value)), partsOf place ρ ps = some qs →
    (ps.map fun p => (p.1, ev ρ p.2)).map (fun p => (place p.1).map fun q => (q.1, q.2, p.2.cells.toList)) = qs.map some
  | [], qs, h => by simp [partsOf] at h; subst h; rfl
  | p :: ps, qs, h => by
    simp only [partsOf, Option.bind_eq_some_iff, Option.map_eq_some_iff] at h
    obtain ⟨q, hq, l, hl, rfl⟩ := h
    have := parts_map ps l hl
    simp only [List.map_cons, hq, Option.map_some, this]

section
variable {cx : Cx} {ops : Array Oper} {k : Act → World → Prop} {rest : List Oper} {ρ : Env} {ds : List Deferred} {Γ : List HP} {d : Nat} {ty : TypeId} {pos : String} {after : Array Edge} {tab : List TR}
theorem TL.build {t : TypeId} {ps : List (Nat × Operand)} {r : TR} {fs : List Field} {pls : List (Nat × Nat)} {qs : List (Nat × Nat × List Value)} {l : List Value} (hT : TabsOk cx.P tab) (hd : Nat.blt d cx.n = true) (ht : tab[t]? = some r) (hq : r.und = .struct fs.toArray) (hp : placesOf tab fs = some pls)
    (hqs : partsOf (fun i => pls[i]?) ρ ps = some qs) (hf : fitL r.zero.cells.size qs = true) (hl : fillL r.zero.cells.toList (qs.map fun q => (q.1, q.2.2)) = l)
    (h : TL cx ops k rest ((d, .agg l.toArray) :: ρ) ds Γ) : TL cx ops k (⟨some d, .build t ps.toArray, ty, pos, after, none⟩ :: rest) ρ ds Γ :=
  .val hd (fun w => by
    have hr := hT _ _ ht
    have h1 := run_places hT w fs pls hp
    have h2 := fill_eq (fun i => pls.toArray[i]?) _ (ps.map fun p => (p.1, ev ρ p.2)) qs r.zero.cells rfl (by simpa using parts_map ps qs hqs) hf
    simp only [execOp, Instr.build, Sem.run_bind, hr.run_zero, Result.andThen_ok, hr.run_und, hq, Array.mapM_eq_mapM_toList, Sem.run_map, h1, List.map_toArray]
    simp only [h2, hl]
    rfl) h
/-- n times the cells of a zero value. -/
def zerosL (z : List Value) : Nat → List Value
  | 0 => []
  | n + 1 => z ++ zerosL z n
theorem zerosL_length (z : List Value) (n : Nat) : (zerosL z n).length = n * z.length := by
  induction n with
  | zero => simp [zerosL]
  | succ n ih => simp [zerosL, ih, Nat.add_mul, Nat.add_comm]
theorem zerosL_get (z : List Value) : ∀ (n i : Nat), i < n * z.length → (zerosL z n)[i]? = z[i % z.length]?
  | 0, i, h => by simp at h
  | n + 1, i, h => by
    rw [zerosL]
    rcases Nat.lt_or_ge i z.length with h1 | h1
    · rw [List.getElem?_append_left h1, Nat.mod_eq_of_lt h1]
    · rw [List.getElem?_append_right h1, zerosL_get z n (i - z.length) (by rw [Nat.add_mul] at h; omega)]
      congr 1
      exact (Nat.mod_eq_sub_mod h1).symm
theorem zeros_array (z : Array Value) (n : Nat) : ((Array.range (n * z.size)).map fun i => z[i % z.size]!) = (zerosL z.toList n).toArray := by
  apply Array.ext'
  apply List.ext_getElem?
  intro i
  simp only [Array.toList_map, Array.toList_range, List.getElem?_map]
  rcases Nat.lt_or_ge i (n * z.size) with h | h
  · have hz : 0 < z.size := by
      rcases Nat.eq_zero_or_pos z.size with h0 | h0
      · rw [h0] at h; simp at h
      · exact h0
    have hm : i % z.size < z.size := Nat.mod_lt _ hz
    rw [zerosL_get z.toList n i (by simpa using h)]
    simp [h, hm]
  · rw [List.getElem?_eq_none (l := List.range _) (by simpa using h), List.getElem?_eq_none (by rw [zerosL_length]; simpa using h)]
    rfl
theorem TL.buildSlice {t e : TypeId} {n : Nat} {ps : List (Nat × Operand)} {r r' : TR} {qs : List (Nat × Nat × List Value)} {l : List Value} (hd : Nat.blt d cx.n = true) (ht : TabOk cx.P t r) (hq : r.und = .slice e) (ht' : TabOk cx.P e r') (hzs : (r'.zero.cells.size == r'.size) = true) (hlim : Nat.ble (n * r'.size) 16777216 = true)
    (hqs : partsOf (fun i => some (i * r'.size, r'.size)) ρ ps = some qs) (hf : fitL (n * r'.size) qs = true) (hl : fillL (zerosL r'.zero.cells.toList n) (qs.map fun q => (q.1, q.2.2)) = l)
    (h : ∀ b, TL cx ops k rest ((d, .slice (some ⟨b, 0, none⟩) n n) :: ρ) ds (row b l e :: Γ)) : TL cx ops k (⟨some d, .buildSlice t n ps.toArray, ty, pos, after, none⟩ :: rest) ρ ds Γ :=
  .act (X := Nat) (φ := fun _ => True) (v := fun b => .slice (some ⟨b, 0, none⟩) n n) (Δ := fun b => row b l e :: Γ) hd (fun w hs => ⟨w.heap.size, _, trivial, hs.alloc _, by
    have hzs' : r'.zero.cells.size = r'.size := by simpa using hzs
    have hlim' : ¬ n * r'.size > 2 ^ 24 := by simp at hlim; omega
    have h2 := fill_eq (fun i => some (i * r'.size, r'.size)) (n * r'.size) (ps.map fun p => (p.1, ev ρ p.2)) qs (zerosL r'.zero.cells.toList n).toArray (by simp [zerosL_length, hzs']) (by simpa using parts_map ps qs hqs) hf
    simp only [execOp, Instr.buildSlice, Sem.run_bind, ht.run_und, hq, Result.andThen_ok, ht'.run_size, if_neg hlim', List.map_toArray]
    by_cases h0 : n * r'.size = 0
    · have hz : (zerosL r'.zero.cells.toList n).toArray = #[] := by
        have : (zerosL r'.zero.cells.toList n).length = 0 := by rw [zerosL_length]; simp [hzs', h0]
        rw [List.eq_nil_of_length_eq_zero this]
      rw [hz] at h2
      have hl2 : fillL [] (qs.map fun q => (q.1, q.2.2)) = l := by rw [← hl]; congr 1; simpa using (congrArg Array.toList hz).symm
      simp only [h0, if_true]
      have e1 : ((Array.range 0).map fun i => (#[] : Array Value)[i % (#[] : Array Value).size]!) = #[] := by simp
      simp only [Sem.run_pure, Sem.run_bind, Result.andThen_ok, e1, h2, newRow, newObj]
      simp [Sem.run, hl2]
    · have h4 := zeros_array r'.zero.cells n
      rw [hzs'] at h4
      simp only [h0, if_false, Sem.run_bind, ht'.run_zero, Result.andThen_ok, Sem.run_pure, hzs', h4, h2, newRow, newObj]
      simp [Sem.run, hl]⟩) (fun b _ => h b)
/-! ### slicing -/
theorem TL.sliceLo {t e : TypeId} {x y : Operand} {b o n c : Nat} {i : Int} {q : IntKind} {r r' : TR} (hd : Nat.blt d cx.n = true) (ea : ev ρ x = .slice (some ⟨b, o, none⟩) n c) (eb : ev ρ y = .int q i) (ht : TabOk cx.P t r) (hq : r.und = .slice e) (ht' : TabOk cx.P e r') (h0 : 0 ≤ i) (h1 : i ≤ n)
    (h : ∀ o', (i < c → o' = o + i.toNat * r'.size) → TL cx ops k rest ((d, .slice (some ⟨b, o', none⟩) (n - i.toNat) (c - i.toNat)) :: ρ) ds Γ) : TL cx ops k (⟨some d, .slice t x (some y) none none, ty, pos, after, none⟩ :: rest) ρ ds Γ := by
  by_cases hc : c = i.toNat
  · refine .val hd (fun w => ?_) (h o (fun hlt => by omega))
    simp [execOp, Instr.sliceAt, Instr.slice, Instr.sliceBounds, Instr.sliceBound, asIntOf, ea, eb, ht.run_und, hq, ht'.run_size, h0, h1, hc]
  · refine .val hd (fun w => ?_) (h (o + i.toNat * r'.size) (fun _ => rfl))
    simp [execOp, Instr.sliceAt, Instr.slice, Instr.sliceBounds, Instr.sliceBound, asIntOf, ea, eb, ht.run_und, hq, ht'.run_size, h0, h1, hc, add_at]
theorem TL.sliceHi {t e : TypeId} {x y : Operand} {A : Option Addr} {n c : Nat} {i : Int} {q : IntKind} {r r' : TR} (hd : Nat.blt d cx.n = true) (ea : ev ρ x = .slice A n c) (eb : ev ρ y = .int q i) (ht : TabOk cx.P t r) (hq : r.und = .slice e) (ht' : TabOk cx.P e r') (h0 : 0 ≤ i) (h1 : i ≤ c)
    (h : TL cx ops k rest ((d, .slice A i.toNat c) :: ρ) ds Γ) : TL cx ops k (⟨some d, .slice t x none (some y) none, ty, pos, after, none⟩ :: rest) ρ ds Γ :=
  .val hd (fun w => by
    have hA : (if c = 0 then A else A.map fun a => a.add 0) = A := by cases A <;> simp [Addr.add]
    simp [execOp, Instr.sliceAt, Instr.slice, Instr.sliceBounds, Instr.sliceBound, asIntOf, ea, eb, ht.run_und, hq, ht'.run_size, h0, h1]
    cases A <;> simp [Addr.add]) h
/-! ### calls -/
def Callable (P : Program) (f : FuncId) : Prop := ∃ fn, P.funcs[f]? = some fn ∧ (fn.name == "runtime.NumGoroutine") = false ∧ fn.body.isNone = false
theorem TL.call {f : FuncId} {xs : List Operand} {vs : List Value} {ts : Array TypeId} {Δ : List HP} {R : Ending → List HP → Prop} (hd : Nat.blt d cx.n = true) (hc : Callable cx.P f) (ha : xs.map (ev ρ) = vs) (hΓ : ∀ m, all Γ m → all Δ m) (hf : Fn cx.P f vs Δ R)
    (hpan : ∀ ch Γ', R (.panicked ch) Γ' → cx.rd = none ∧ ds = [] ∧ cx.R (.panicked ch) Γ') (hout : ∀ Γ', ¬ R .outgrown Γ') (h : ∀ v Γ', R (.returned v) Γ' → TL cx ops k rest ((d, v) :: ρ) ds Γ') : TL cx ops k (⟨some d, .call ⟨.value (.func f), xs.toArray, ts⟩, ty, pos, after, none⟩ :: rest) ρ ds Γ := by
  intro a w hr hs
  obtain ⟨fn, h1, h2, h3⟩ := hc
  have hx : (execOp a.eval ⟨some d, .call ⟨.value (.func f), xs.toArray, ts⟩, ty, pos, after, none⟩).run cx.P w = .ok (.enter f vs.toArray) w := by
    rw [hr.ev, ← ha]
    have h2' : ¬ fn.name = "runtime.NumGoroutine" := by simpa using h2
    have h3' : ¬ fn.body = none := by intro h; rw [h] at h3; cases h3
    simp [execOp, resolve, ev, Deferred.ofValue, invoke, callFunc, h1, h2', h3', program, Sem.run]
  refine wpL_enter rfl hx (Calls.mono (hf cx.E w (hs.imp hΓ)) ?_)
  rintro e w' ⟨Γ', hR, hs'⟩
  cases e with
  | returned v => exact h v Γ' hR _ _ (hr.put d v hd) hs'
  | panicked ch =>
    obtain ⟨h4, h5, h6⟩ := hpan ch Γ' hR
    exact ⟨h4, .inl ⟨h5 ▸ hr.defers, Γ', h6, hs'⟩⟩
  | outgrown => exact (hout Γ' hR).elim
/-- A call that comes back. -/
def FnV (P : Program) (f : FuncId) (args : List Value) (Γ : List HP) (R : Value → List HP → Prop) : Prop := Fn P f args Γ fun e Γ' => ∃ v, e = .returned v ∧ R v Γ'
theorem TL.callV {f : FuncId} {xs : List Operand} {vs : List Value} {ts : Array TypeId} {Δ : List HP} {R : Value → List HP → Prop} (hd : Nat.blt d cx.n = true) (hc : Callable cx.P f) (ha : xs.map (ev ρ) = vs) (hΓ : ∀ m, all Γ m → all Δ m) (hf : FnV cx.P f vs Δ R)
    (h : ∀ v Γ', R v Γ' → TL cx ops k rest ((d, v) :: ρ) ds Γ') : TL cx ops k (⟨some d, .call ⟨.value (.func f), xs.toArray, ts⟩, ty, pos, after, none⟩ :: rest) ρ ds Γ :=
  .call hd hc ha hΓ hf (fun _ _ ⟨_, h, _⟩ => by cases h) (fun _ ⟨_, h, _⟩ => by cases h) (fun v Γ' ⟨_, e, hR⟩ => by injection e with e; subst e; exact h v Γ' hR)
/-! ### results that lie in memory -/
inductive RvOk (cx : Cx) (Γ : List HP) (ρ : Env) : ResultVar → Value → Prop
  | tmp {t : Nat} {v : Value} (e : lk ρ t = v) : RvOk cx Γ ρ (.tmp t) v
  | cell {a b o : Nat} {ty : TypeId} {r : TR} {v : Value} (e : lk ρ a = .pointer (some ⟨b, o, none⟩)) (ht : TabOk cx.P ty r) (hq : isAggD r.und = false) (hv : has Γ (fun m => cellAt m b o v)) : RvOk cx Γ ρ (.cell a ty) v
  | agg {a b o : Nat} {ty : TypeId} {r : TR} {vs : List Value} (e : lk ρ a = .pointer (some ⟨b, o, none⟩)) (ht : TabOk cx.P ty r) (hq : isAggD r.und = true) (hl : vs.length = r.size) (hv : has Γ (fun m => cellsAt m b o vs)) : RvOk cx Γ ρ (.cell a ty) (.agg vs.toArray)
def rvRun (tmps : Array Value) (rv : ResultVar) : Sem Value := match rv with
  | .tmp t => pure (tmps.getD t undef)
  | .cell x t => do loadVar t (← asAddr (tmps.getD x undef))
theorem results_eq (fn : Func) (tmps : Array Value) : results fn tmps = (do let vs ← fn.results.mapM (rvRun tmps); pure (if h : vs.size = 1 then vs[0] else .tuple vs)) := by
  unfold results
  congr 2
theorem run_rv {rv : ResultVar} {v : Value} (h : RvOk cx Γ ρ rv v) {a : Act} {w : World} (hr : Rp cx.n ρ [] a) (hs : Sat cx.E Γ w) :
    (rvRun a.tmps rv).run cx.P w = .ok v w := by
  unfold rvRun
  cases h with
  | tmp e => simp only [hr.get, e]; rfl
  | cell e ht hq hv =>
    have := hs.cell hv
    simp [hr.get, e, asAddr, loadVar, ht.run_agg, hq, this]
  | agg e ht hq hl hv =>
    rename_i x b o ty r vs
    have hc : ∀ j v, vs[j]? = some v → w.cell? ((⟨b, o, none⟩ : Addr).add j) = some v := fun j v hj => by
      rw [add_at]
      exact hs.cell (has_imp hv fun m hm => hm j v hj)
    have := run_loadCells_list (P := cx.P) w ⟨b, o, none⟩ vs hc
    rw [hl] at this
    simp [hr.get, e, asAddr, loadVar, ht.run_agg, hq, ht.run_size, this]
inductive RvsOk (cx : Cx) (Γ : List HP) (ρ : Env) : List ResultVar → List Value → Prop
  | nil : RvsOk cx Γ ρ [] []
  | cons {rv : ResultVar} {v : Value} {rvs : List ResultVar} {vs : List Value} (h : RvOk cx Γ ρ rv v) (t : RvsOk cx Γ ρ rvs vs) : RvsOk cx Γ ρ (rv :: rvs) (v :: vs)
theorem run_rvs : ∀ {rvs : List ResultVar} {vs : List Value}, RvsOk cx Γ ρ rvs vs → ∀ {a : Act} {w : World}, Rp cx.n ρ [] a → Sat cx.E Γ w →
    (rvs.mapM (rvRun a.tmps)).run cx.P w = .ok vs w := by
  intro rvs vs h
  induction h with
  | nil => intro a w _ _; simp
  | cons h _ ih =>
    intro a w hr hs
    have h1 := run_rv h hr hs
    simp only [List.mapM_cons, Sem.run_bind, h1, Result.andThen_ok, ih hr hs, Sem.run_pure]
def oneOr : List Value → Value
  | [v] => v
  | vs => .tuple vs.toArray
theorem TK.rets {rvs : List ResultVar} {vs : List Value} {k : List Item} (hrd : cx.rd = none) (hres : cx.fn.results = rvs.toArray) (hv : RvsOk cx Γ ρ rvs vs) (h : cx.R (.returned (oneOr vs)) Γ) : TK cx (.code .ret :: k) ρ [] Γ :=
  .ret hrd (fun a w hr hs => by
    have h1 := run_rvs hv hr hs
    simp only [results_eq, hres, Array.mapM_eq_mapM_toList, Sem.run_bind, Sem.run_map, h1, Result.andThen_ok, Sem.run_pure]
    congr 1
    match vs with
    | [] => simp [oneOr]
    | [v] => simp [oneOr]
    | v :: v' :: vs => simp [oneOr]) h
theorem TK.retAgg {k : List Item} {a b o : Nat} {ty : TypeId} {r : TR} {vs : List Value} (hrd : cx.rd = none) (hres : cx.fn.results = #[.cell a ty]) (e : lk ρ a = .pointer (some ⟨b, o, none⟩)) (ht : TabOk cx.P ty r) (hq : isAggD r.und = true) (hl : vs.length = r.size) (hv : has Γ (fun m => cellsAt m b o vs))
    (h : cx.R (.returned (.agg vs.toArray)) Γ) : TK cx (.code .ret :: k) ρ [] Γ := .rets hrd hres (.cons (.agg e ht hq hl hv) .nil) h
theorem all_sub {Δ : List HP} (h : Δ.Sublist Γ) : ∀ {m : Mem}, all Γ m → ∃ m', Mem.sub m' m ∧ all Δ m' := by
  induction h with
  | slnil => exact fun hm => ⟨_, Mem.sub_refl _, hm⟩
  | cons H _ ih =>
    rintro m ⟨a, b, hd, rfl, _, hb⟩
    obtain ⟨m', h1, h2⟩ := ih hb
    exact ⟨m', Mem.sub_trans h1 (Mem.sub_right hd), h2⟩
  | cons_cons H _ ih =>
    rintro m ⟨a, b, hd, rfl, ha, hb⟩
    obtain ⟨m', h1, h2⟩ := ih hb
    have hd' : Mem.disj a m' := fun k => by
      rcases hd k with h | h
      · exact .inl h
      · right
        cases hk : m' k with
        | none => rfl
        | some o => rw [h1 k o hk] at h; cases h
    refine ⟨Mem.join a m', ?_, a, m', hd', rfl, ha, h2⟩
    intro k o hk
    cases hak : a k with
    | some q => simpa [Mem.join, hak] using hk
    | none =>
      simp [Mem.join, hak] at hk ⊢
      exact h1 k o hk
theorem TK.sub {k : List Item} {Δ : List HP} (hs : Δ.Sublist Γ) (h : TK cx k ρ ds Δ) : TK cx k ρ ds Γ := fun a w hr hS => h a w hr (hS.weaken fun _ hm => all_sub hs hm)
theorem TL.sub {Δ : List HP} (hs : Δ.Sublist Γ) (h : TL cx ops k rest ρ ds Δ) : TL cx ops k rest ρ ds Γ := fun a w hr hS => h a w hr (hS.weaken fun _ hm => all_sub hs hm)
/-- The results are told of less than is there. -/
theorem TK.retSub {v : Value} {k : List Item} {Δ : List HP} (h : ∀ R', (∀ Γ', Δ.Sublist Γ' → R' (.returned v) Γ') → TK { cx with R := R' } (.code .ret :: k) ρ [] Γ) (hR : cx.R (.returned v) Δ) : TK cx (.code .ret :: k) ρ [] Γ := by
  intro a w hr hS cs
  obtain ⟨e, w', ⟨Γ', ⟨rfl, hsub⟩, hS'⟩, ho⟩ := h (fun e Γ' => e = .returned v ∧ Δ.Sublist Γ') (fun _ h => ⟨rfl, h⟩) a w hr hS cs
  exact ⟨_, w', ⟨Δ, hR, hS'.weaken fun _ hm => all_sub hsub hm⟩, ho⟩
theorem TK.retRow {k : List Item} {a b o : Nat} {e ty : TypeId} {r : TR} {l vs : List Value} {Δ : List HP} (hrd : cx.rd = none) (i : Nat) (hi : Γ[i]? = some (row b l e)) (hres : cx.fn.results = #[.cell a ty]) (ea : lk ρ a = .pointer (some ⟨b, o, none⟩)) (ht : TabOk cx.P ty r) (hq : isAggD r.und = true) (hv : (l.drop o).take r.size = vs) (hn : (vs.length == r.size) = true)
    (h : cx.R (.returned (.agg vs.toArray)) Δ) (hs : Δ.Sublist Γ) : TK cx (.code .ret :: k) ρ [] Γ :=
  have hn' : vs.length = r.size := by simpa using hn
  .retSub (fun R' hR' => .retAgg (cx := { cx with R := R' }) hrd hres ea ht hq hn' (has_rows i hi (by rw [hn', hv])) (hR' _ hs)) h
theorem TK.retS1 {k : List Item} {t : Nat} {v : Value} {Δ : List HP} (hrd : cx.rd = none) (hres : cx.fn.results = #[.tmp t]) (e : lk ρ t = v) (h : cx.R (.returned v) Δ) (hs : Δ.Sublist Γ) : TK cx (.code .ret :: k) ρ [] Γ :=
  .retSub (fun R' hR' => .ret1 (cx := { cx with R := R' }) hrd hres e (hR' _ hs)) h
theorem TK.retS2 {k : List Item} {t u : Nat} {v v' : Value} {Δ : List HP} (hrd : cx.rd = none) (hres : cx.fn.results = #[.tmp t, .tmp u]) (e : lk ρ t = v) (e' : lk ρ u = v') (h : cx.R (.returned (.tuple #[v, v'])) Δ) (hs : Δ.Sublist Γ) : TK cx (.code .ret :: k) ρ [] Γ :=
  .retSub (fun R' hR' => .ret2 (cx := { cx with R := R' }) hrd hres e e' (hR' _ hs)) h
theorem TK.retS3 {k : List Item} {t u s : Nat} {v v' v'' : Value} {Δ : List HP} (hrd : cx.rd = none) (hres : cx.fn.results = #[.tmp t, .tmp u, .tmp s]) (e : lk ρ t = v) (e' : lk ρ u = v') (e'' : lk ρ s = v'') (h : cx.R (.returned (.tuple #[v, v', v''])) Δ) (hs : Δ.Sublist Γ) : TK cx (.code .ret :: k) ρ [] Γ :=
  .retSub (fun R' hR' => .ret3 (cx := { cx with R := R' }) hrd hres e e' e'' (hR' _ hs)) h
end
end Go.Proofs.Ythbcfamfaicneaa.E
