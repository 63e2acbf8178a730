/- MY OWN LAYER: range over a string; look-ups in maps that are laid; IndexByte. And strings' small functions, walked. -/
import Derived.Test.YtebeckkkckijeaaDoorR0
import Derived.Test.YtebeckkkckijeaaDoorL0
import Derived.Laws.Externs
import Derived.Laws.RangeAny
import Derived.Lib.OthersKept
import Derived.Lib.Bytealg
namespace Go.Proofs.YtebeckkkckijeaaDoor.E
open Go Go.RowKit Go.Proofs
section
variable {cx : Cx} {ops : Array Oper} {K : Act → World → Prop} {rest : List Oper} {ρ : Env} {ds : List Deferred} {Γ : List HP} {d : Nat} {ty : TypeId} {pos : String} {after : Array Edge}
theorem TL.rangeS {t : TypeId} {x : Operand} {l : List UInt8} {r : TR} (hd : Nat.blt d cx.n = true) (ea : ev ρ x = .string (S l)) (ht : TabOk cx.P t r) (hq : r.und = .string)
    (h : ∀ b, TL cx ops K rest ((d, .pointer (some ⟨b, 0, none⟩)) :: ρ) ds (pt b (.stringIter (S l) 0) :: Γ)) : TL cx ops K (⟨some d, .range t x, ty, pos, after, none⟩ :: rest) ρ ds Γ :=
  .act (X := Nat) (φ := fun _ => True) (v := fun b => .pointer (some ⟨b, 0, none⟩)) (Δ := fun b => pt b (.stringIter (S l) 0) :: Γ) hd (fun w hs => ⟨w.heap.size, _, trivial, hs.alloc (.stringIter (S l) 0), by
    simp [execOp, ea, Instr.range, ht.run_und, hq, newObj, Sem.run]⟩) (fun b _ => h b)
theorem TL.nextEnd {x : Operand} {l : List UInt8} {b p : Nat} (i : Nat) (hi : Γ[i]? = some (pt b (.stringIter (S l) p))) (hd : Nat.blt d cx.n = true) (ea : ev ρ x = .pointer (some ⟨b, 0, none⟩)) (hp : ¬ p < l.length)
    (h : TL cx ops K rest ((d, .tuple #[.bool false]) :: ρ) ds Γ) : TL cx ops K (⟨some d, .next x true, ty, pos, after, none⟩ :: rest) ρ ds Γ :=
  .read hd (fun w hs => by
    have hb := hs.block hi
    have := Lib.run_next_end_at (P := cx.P) w b (S l) p ty hb (by rw [S_size]; exact hp)
    simp [execOp, ea, this]) h
theorem TL.nextS {x : Operand} {l : List UInt8} {b p : Nat} {Δ : List HP} (i : Nat) (hi : Γ[i]? = some (pt b (.stringIter (S l) p))) (hd : Nat.blt d cx.n = true) (ea : ev ρ x = .pointer (some ⟨b, 0, none⟩)) (hp : p < l.length) (hΔ : Γ.set i (pt b (.stringIter (S l) (p + (Utf8.decode (S l) p).2))) = Δ)
    (h : TL cx ops K rest ((d, .tuple #[.bool true, .int .i64 (p : Int), .int .i32 ((Utf8.decode (S l) p).1 : Int)]) :: ρ) ds Δ) : TL cx ops K (⟨some d, .next x true, ty, pos, after, none⟩ :: rest) ρ ds Γ := by
  subst hΔ
  exact .act (X := Unit) (φ := fun _ => True) (v := fun _ => .tuple #[.bool true, .int .i64 (p : Int), .int .i32 ((Utf8.decode (S l) p).1 : Int)]) (Δ := fun _ => Γ.set i (pt b (.stringIter (S l) (p + (Utf8.decode (S l) p).2)))) hd (fun w hs => by
    have hb := hs.block hi
    have := Lib.run_next_any_at (P := cx.P) w b (S l) p ty hb (by rw [S_size]; exact hp)
    refine ⟨(), _, trivial, hs.put (w' := w.iterAt b (S l) (p + (Utf8.decode (S l) p).2)) hi rfl rfl rfl (Lib.iterAt_heap w b _ _ _ hb) (fun k hk q hq => (Lib.iterAt_other w b k _ _ hk).trans hq), ?_⟩
    simp [execOp, ea, this]) (fun _ _ => h)
end
section
variable {cx : Cx} {ops : Array Oper} {K : Act → World → Prop} {rest : List Oper} {ρ : Env} {ds : List Deferred} {Γ : List HP} {d : Nat} {ty : TypeId} {pos : String} {after : Array Edge}
/-- A function value that has caught nothing is called. -/
theorem TL.callW {f : FuncId} {x : Operand} {xs : List Operand} {vs : List Value} {ts : Array TypeId} {Δ : List HP} {R : Value → List HP → Prop} (hd : Nat.blt d cx.n = true) (ea : ev ρ x = .func (.func f) #[] #[]) (hc : Callable cx.P f) (ha : xs.map (ev ρ) = vs) (hΓ : ∀ m, all Γ m → all Δ m) (hf : FnV cx.P f vs Δ R)
    (h : ∀ v Γ', R v Γ' → TL cx ops K rest ((d, v) :: ρ) ds Γ') : TL cx ops K (⟨some d, .call ⟨.value x, xs.toArray, ts⟩, ty, pos, after, none⟩ :: rest) ρ ds Γ := by
  intro a w hr hs
  obtain ⟨fn, h1, h2, h3⟩ := hc
  have hx : (execOp a.eval ⟨some d, .call ⟨.value x, xs.toArray, ts⟩, ty, pos, after, none⟩).run cx.P w = .ok (.enter f vs.toArray) w := by
    rw [hr.ev, ← ha]
    have h2' : ¬ fn.name = "runtime.NumGoroutine" := by simpa using h2
    have h3' : ¬ fn.body = none := by intro h; rw [h] at h3; cases h3
    simp [execOp, resolve, ea, Deferred.ofValue, invoke, callFunc, h1, h2', h3', program, Sem.run]
  refine wpL_enter rfl hx (Calls.mono (hf cx.E w (hs.imp hΓ)) ?_)
  rintro e w' ⟨Γ', ⟨v, rfl, hR⟩, hs'⟩
  exact h v Γ' hR _ _ (hr.put d v hd) hs'
end
theorem get_S {l : List UInt8} {p : Nat} {c : UInt8} (h : l[p]? = some c) (hp : p < (S l).size) : (S l)[p]'hp = c := by
  have := (List.getElem?_eq_some_iff.1 h).2
  rw [← this]; rfl
theorem decode_low {l : List UInt8} {p : Nat} {c : UInt8} (h : l[p]? = some c) (hc : c.toNat < 128) : Utf8.decode (S l) p = (c.toNat, 1) := by
  have hp : p < (S l).size := by rw [S_size]; exact (List.getElem?_eq_some_iff.1 h).1
  have h1 := get_S h hp
  have := decode_ascii (S l) p hp (by rw [h1]; exact hc)
  rw [this, h1]
theorem decode_hi {l : List UInt8} {p : Nat} {c : UInt8} (h : l[p]? = some c) (hc : 128 ≤ c.toNat) : 128 ≤ (Utf8.decode (S l) p).1 := by
  have hp : p < (S l).size := by rw [S_size]; exact (List.getElem?_eq_some_iff.1 h).1
  have h1 := get_S h hp
  exact (decode_high (S l) p hp (by rw [h1]; exact hc)).1
/-- A map's look-ups, as the world's own map answers them. -/
def lookHas (mt b : Nat) (key : Value) (two : Bool) (res : Value) (Γ : List HP) : Prop := ∃ es clock, has Γ (fun m => m b = some (.map es clock)) ∧ ∀ w : World, w.heap[b]? = some (.map es clock) → (Instr.lookup mt (.map (some b)) key two).run Tryd.prog w = .ok res w
section
variable {ρ : Env} {d : Nat} {ty : TypeId} {pos : String} {after : Array Edge} {E : World} {Γ : List HP}
theorem PV.lookH {mt b : Nat} {x y : Operand} {key res : Value} {two : Bool} (ea : ev ρ x = .map (some b)) (eb : ev ρ y = key) (hm : lookHas mt b key two res Γ) : PV Tryd.prog ρ (Sat E Γ) ⟨some d, .lookup mt x y two, ty, pos, after, none⟩ res := fun w hs => by
  obtain ⟨es, clock, h1, h2⟩ := hm
  have hb : w.heap[b]? = some (.map es clock) := by
    obtain ⟨_, _, _, m, hm, hw⟩ := hs
    exact hw _ _ (h1 m hm)
  simp [execOp, ea, eb, h2 w hb]
end
theorem lookHas_tail {mt b : Nat} {key res : Value} {two : Bool} {Γ : List HP} {H : HP} (h : lookHas mt b key two res Γ) : lookHas mt b key two res (H :: Γ) := by
  obtain ⟨es, clock, h1, h2⟩ := h
  exact ⟨es, clock, has_tail (fun x y hs h => hs _ _ h) h1, h2⟩
/-- Where the first end of a line stands. -/
def nlI : List UInt8 → Option Nat
  | [] => none
  | c :: s => if c = 10 then some 0 else (nlI s).map (· + 1)
theorem nlI_skip : ∀ s : List UInt8, match nlI s with
    | none => skipC s = [] ∧ (10 : UInt8) ∉ s
    | some k => k < s.length ∧ skipC s = s.drop (k + 1)
  | [] => ⟨rfl, by simp⟩
  | c :: s => by
    have ih := nlI_skip s
    unfold nlI skipC
    by_cases hc : c = 10
    · rw [if_pos hc, if_pos hc]
      exact ⟨by simp, rfl⟩
    · rw [if_neg hc, if_neg hc]
      cases h : nlI s with
      | none =>
        rw [h] at ih
        exact ⟨ih.1, by simp [Ne.symm hc, ih.2]⟩
      | some k =>
        rw [h] at ih
        exact ⟨by simp; omega, by rw [ih.2]; rfl⟩
def idxI (s : List UInt8) : Int := match nlI s with
  | none => -1
  | some k => (k : Int)
end Go.Proofs.YtebeckkkckijeaaDoor.E
