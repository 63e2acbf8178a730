/- My own texts, one behind the other: Sz Se Sg Sh Si Sj Sn Sk Ua. -/
import Derived.Test.YtndmjpceocecdaaPg1
import Derived.Laws.IdiomRangeMap
import Derived.Laws.StructEq
import Derived.Test.YtndmjpceocecdaaPg2
import Derived.Lib.FrozenHead
import Derived.Recover
import Derived.Lib.SliceRun
import Derived.OrdersHeld
import Derived.Test.YtndmjpceocecdaaPg3
/- MY OWN LAYER: maps, more: what is taken out, how many entries, a range over a map (in whatever order). P is a variable. -/
namespace Go.Proofs.Ytndmjpceocecdaa.E
open Go Go.RowKit

theorem keyNat {P : Program} {kt : TypeId} {q : IntKind} (ht : P.underlying kt = some (.int q)) : KeyOk P kt (fun n : Nat => Value.int q (n : Int)) where
  find k L es w h := find_now ht (fun a b => by
      simp only [Instr.sameNow, if_true]
      by_cases hab : a = b
      · simp [hab]
      · have : ((a : Int) == (b : Int)) = false := by simp; omega
        rw [this]; simp [hab]) k L es w h
  check k em w := checkKey_plain ht _ rfl em w
  stay k w := by simp [Instr.keyThatStays, Instr.sameBits]
/-- The entries without the one of this key. -/
def dropE {α β : Type} [DecidableEq α] : List (α × β) → α → List (α × β)
  | [], _ => []
  | p :: es, k => if k = p.1 then es else p :: dropE es k
theorem dropE_none {α β : Type} [DecidableEq α] {k : α} : ∀ {es : List (α × β)}, lookE es k = none → dropE es k = es
  | [], _ => rfl
  | p :: es, h => by
    simp only [lookE] at h
    split at h
    · cases h
    · rename_i hk
      simp only [dropE, hk, if_false, dropE_none h]
theorem dropE_idx {α β : Type} [DecidableEq α] {k : α} : ∀ {es : List (α × β)} {j : Nat}, (es.map (·.1)).findIdx? (fun x => decide (k = x)) = some j → es.eraseIdx j = dropE es k
  | [], _, h => by simp at h
  | p :: es, j, h => by
    rw [List.map_cons, List.findIdx?_cons] at h
    simp only [dropE]
    by_cases hk : k = p.1
    · simp only [hk, decide_true, if_true, Option.some.injEq] at h
      subst h
      simp [hk]
    · simp only [hk, decide_false, Bool.false_eq_true, if_false] at h
      obtain ⟨j', h1, h2⟩ := Option.map_eq_some_iff.1 h
      subst h2
      simp only [hk, if_false, List.eraseIdx_cons_succ, dropE_idx h1]
/-- The entries with this one laid in, or its value turned. -/
def setE {α β : Type} [DecidableEq α] : List (α × β) → α → β → List (α × β)
  | [], k, v => [(k, v)]
  | p :: es, k, v => if k = p.1 then (k, v) :: es else p :: setE es k v
theorem setE_none {α β : Type} [DecidableEq α] {k : α} {v : β} : ∀ {es : List (α × β)}, lookE es k = none → setE es k v = es ++ [(k, v)]
  | [], _ => rfl
  | p :: es, h => by
    simp only [lookE] at h
    split at h
    · cases h
    · rename_i hk
      simp only [setE, hk, if_false, setE_none h, List.cons_append]
theorem setE_idx {α β : Type} [DecidableEq α] {k : α} {v : β} : ∀ {es : List (α × β)} {j : Nat}, (es.map (·.1)).findIdx? (fun x => decide (k = x)) = some j → (∃ p, es[j]? = some p ∧ p.1 = k) ∧ es.modify j (fun _ => (k, v)) = setE es k v
  | [], _, h => by simp at h
  | p :: es, j, h => by
    rw [List.map_cons, List.findIdx?_cons] at h
    simp only [setE]
    by_cases hk : k = p.1
    · simp only [hk, decide_true, if_true, Option.some.injEq] at h
      subst h
      exact ⟨⟨p, by simp, hk.symm⟩, by simp [hk]⟩
    · simp only [hk, decide_false, Bool.false_eq_true, if_false] at h
      obtain ⟨j', h1, h2⟩ := Option.map_eq_some_iff.1 h
      subst h2
      obtain ⟨h3, h4⟩ := setE_idx (v := v) h1
      exact ⟨by simpa using h3, by simp [hk, h4]⟩
theorem lookE_set {α β : Type} [DecidableEq α] {k k' : α} {v : β} : ∀ {es : List (α × β)}, lookE (setE es k v) k' = if k' = k then some v else lookE es k'
  | [] => by simp [setE, lookE]
  | p :: es => by
    simp only [setE]
    by_cases hk : k = p.1
    · simp only [hk, if_true, lookE]
      by_cases h' : k' = p.1 <;> simp [h']
    · simp only [hk, if_false, lookE, lookE_set]
      by_cases h' : k' = p.1
      · have : k' ≠ k := fun e => hk (e ▸ h')
        simp [h', this]
        intro e; exact absurd e.symm hk
      · simp [h']
def MapOk {α β : Type} (kv : α → Value) (vv : β → Value) (arr : Array MapEntry) (clk : Nat) (es : List (α × β)) : Prop :=
  arr.toList.map (fun e => (e.key, e.val)) = es.map (fun p => (kv p.1, vv p.2)) ∧ (∀ e ∈ arr.toList, e.born < clk) ∧ (arr.toList.map (·.born)).Nodup
theorem mapA_of {α β : Type} {kv : α → Value} {vv : β → Value} {b : Nat} {es : List (α × β)} {arr : Array MapEntry} {clk : Nat} {m : Mem} (h : pt b (.map arr clk) m) (ho : MapOk kv vv arr clk es) : mapA kv vv b es m := ⟨arr, clk, h, ho⟩
/-- What an iterator has not handed out, of entries with different stamps. -/
theorem filter_born (e : MapEntry) : ∀ (L : List MapEntry) (j : Nat), (L.map (·.born)).Nodup → L[j]? = some e → L.filter (fun x => x.born != e.born) = L.eraseIdx j
  | [], j, _, h => by simp at h
  | x :: L, 0, hn, h => by
    simp at h
    subst h
    simp only [List.map_cons, List.nodup_cons] at hn
    simp only [List.filter_cons, bne_self_eq_false, Bool.false_eq_true, if_false, List.eraseIdx_cons_zero]
    refine List.filter_eq_self.2 fun y hy => ?_
    have : y.born ≠ x.born := fun he => hn.1 (he ▸ List.mem_map.2 ⟨y, hy, rfl⟩)
    simpa using this
  | x :: L, j + 1, hn, h => by
    simp only [List.map_cons, List.nodup_cons] at hn
    simp only [List.getElem?_cons_succ] at h
    have hm : e ∈ L := List.mem_of_getElem? h
    have : x.born ≠ e.born := fun he => hn.1 (he ▸ List.mem_map.2 ⟨e, hm, rfl⟩)
    have hb : (x.born != e.born) = true := by simpa using this
    rw [List.filter_cons, hb, if_pos rfl, List.eraseIdx_cons_succ, filter_born e L j hn.2 h]
def leftL (arr : Array MapEntry) (seen : Array Nat) : List MapEntry := arr.toList.filter fun e => !seen.contains e.born
theorem leftL_push (arr : Array MapEntry) (seen : Array Nat) (s : Nat) : leftL arr (seen.push s) = (leftL arr seen).filter (fun x => x.born != s) := by
  unfold leftL
  rw [List.filter_filter]
  congr 1
  funext e
  simp only [Array.contains_push]
  cases seen.contains e.born <;> simp [bne, Bool.beq_comm]
  try exact Bool.eq_iff_iff.2 (by simp [eq_comm])
theorem leftL_nodup {arr : Array MapEntry} (seen : Array Nat) (h : (arr.toList.map (·.born)).Nodup) : ((leftL arr seen).map (·.born)).Nodup := (List.filter_sublist.map _).nodup h
/-- 'next', the iterator in whatever block: nothing is left, or any one that is left comes out. -/
theorem run_next_at {P : Program} (w : World) (ty : TypeId) (bm it since : Nat) (seen : Array Nat) (arr : Array MapEntry) (clk : Nat) (hi : w.heap[it]? = some (.mapIter (some bm) since seen since)) (hb : w.heap[bm]? = some (.map arr clk)) (hold : ∀ x ∈ arr.toList, x.born < since) :
    (leftL arr seen = [] ∧ (Instr.next (.pointer (some ⟨it, 0, none⟩)) false ty).run P w = .ok (.tuple #[.bool false]) w) ∨
    ∃ (j : Nat) (e : MapEntry) (w1 : World), (leftL arr seen)[j]? = some e ∧ (w1.heap = w.heap ∧ w1.os = w.os ∧ w1.output = w.output) ∧ (Instr.next (.pointer (some ⟨it, 0, none⟩)) false ty).run P w = .ok (.tuple #[.bool true, e.key, e.val]) { w1 with heap := w1.heap.setIfInBounds it (.mapIter (some bm) since (seen.push e.born) clk) } := by
  have hgi : (getObj it).run P w = .ok (.mapIter (some bm) since seen since) w := by simp [getObj, Sem.run, hi]
  have hgb : (getObj bm).run P w = .ok (.map arr clk) w := by simp [getObj, Sem.run, hb]
  simp only [Instr.next, Sem.run_bind, hgi, hgb, Result.andThen_ok, next_test_false seen arr since since hold (Nat.le_refl _), Bool.false_eq_true, if_false, Sem.run_pure]
  have hL : (Array.filter (fun e => !seen.contains e.born) arr).toList = leftL arr seen := by simp [leftL]
  have hmem : ∀ x ∈ (Array.filter (fun e => !seen.contains e.born) arr).toList, x.born < since := fun x hx => hold x (by simp at hx ⊢; exact hx.1)
  rw [← hL]
  generalize Array.filter (fun e => !seen.contains e.born) arr = L at hmem ⊢
  have e1 : L.filter (fun x => decide (x.born < since)) = L := Array.filter_eq_self.2 (fun x hx => by simpa using hmem x (by simpa using hx))
  have e2 : L.filter (fun x => decide (x.born ≥ since)) = #[] := by
    rw [Array.filter_eq_empty_iff]
    intro x hx
    have := hmem x (by simpa using hx)
    simp
    omega
  simp only [e1, e2, Array.append_empty]
  by_cases h0 : L.size = 0
  · left
    have : L = #[] := Array.eq_empty_of_size_eq_zero h0
    subst this
    refine ⟨rfl, ?_⟩
    simp [choose, Sem.run, Question.forced]
  · right
    have hne : L.isEmpty = false := by simp [Array.isEmpty, h0]
    simp only [hne, Bool.false_eq_true, if_false, Array.empty_append, Array.size_map]
    have hch : ∃ (j : Nat) (w1 : World), j < L.size ∧ (w1.heap = w.heap ∧ w1.os = w.os ∧ w1.output = w.output) ∧ (choose (Question.mapNext L.size)).run P w = .ok j w1 := by
      by_cases hf : L.size ≤ 1
      · exact ⟨0, w, by omega, ⟨rfl, rfl, rfl⟩, by simp [choose, Sem.run, Question.forced, hf]⟩
      · exact ⟨_, w.drew, Nat.mod_lt _ (by omega), ⟨rfl, rfl, rfl⟩, by
          simp only [choose, Sem.run, Question.forced, decide_eq_true_eq, hf, if_false, Question.cut]
          rfl⟩
    obtain ⟨j, w1, hj, hal, hrun⟩ := hch
    have hset : (setObj it (.mapIter (some bm) since (seen.push L[j].born) clk)).run P w1 = .ok () { w1 with heap := w1.heap.setIfInBounds it (.mapIter (some bm) since (seen.push L[j].born) clk) } := by
      have : w1.heap[it]? = some (.mapIter (some bm) since seen since) := by rw [hal.1]; exact hi
      simp [setObj, Sem.run, this]
    refine ⟨j, L[j], w1, by simp [hj], hal, ?_⟩
    simp only [hrun, Result.andThen_ok, Array.getElem?_map, Array.getElem?_eq_getElem hj, Option.map_some, Sem.run_bind, hset, Sem.run_pure]
theorem run_entry_at {P : Program} (w : World) (bm it since : Nat) (seen : Array Nat) (arr : Array MapEntry) (e : MapEntry) (hi : w.heap[it]? = some (.mapIter (some bm) since seen since)) (hb : w.heap[bm]? = some (.map arr since)) (he : e ∈ arr.toList) (hs : seen.back? = some e.born) (hn : (arr.toList.map (·.born)).Nodup) :
    (Instr.entry (.pointer (some ⟨it, 0, none⟩))).run P w = .ok (.tuple #[e.key, e.val]) w := by
  have hgi : (getObj it).run P w = .ok (.mapIter (some bm) since seen since) w := by simp [getObj, Sem.run, hi]
  have hgb : (getObj bm).run P w = .ok (.map arr since) w := by simp [getObj, Sem.run, hb]
  have hf : arr.find? (·.born == e.born) = some e := by rw [← Array.find?_toList]; exact Go.find_born e arr.toList hn he
  simp only [Instr.entry, Sem.run_bind, hgi, hgb, Result.andThen_ok, hs, bne_self_eq_false, Bool.false_eq_true, if_false, hf, Sem.run_pure]
/-- A map that is ranged over, and its iterator: all entries, those that are left, the one that came last. -/
def iterA {α β : Type} (kv : α → Value) (vv : β → Value) (b it : Nat) (es rem : List (α × β)) (last : Option (α × β)) : HP := fun m => ∃ (arr : Array MapEntry) (clk : Nat) (seen : Array Nat), sep (pt b (.map arr clk)) (pt it (.mapIter (some b) clk seen clk)) m ∧ MapOk kv vv arr clk es ∧
  (leftL arr seen).map (fun e => (e.key, e.val)) = rem.map (fun p => (kv p.1, vv p.2)) ∧ (∀ p, last = some p → ∃ e ∈ arr.toList, seen.back? = some e.born ∧ (e.key, e.val) = (kv p.1, vv p.2))
theorem iterA_map {α β : Type} {kv : α → Value} {vv : β → Value} {b it : Nat} {es rem : List (α × β)} {last : Option (α × β)} {m : Mem} (h : iterA kv vv b it es rem last m) : ∃ m', Mem.sub m' m ∧ mapA kv vv b es m' := by
  obtain ⟨arr, clk, seen, ⟨x, y, hd, rfl, hx, _⟩, ho, _⟩ := h
  exact ⟨x, Mem.sub_left x y, arr, clk, hx, ho⟩
theorem iterA_at {α β : Type} {kv : α → Value} {vv : β → Value} {b it : Nat} {es rem : List (α × β)} {last : Option (α × β)} {m : Mem} (h : iterA kv vv b it es rem last m) : mapAt kv vv b es m := by
  obtain ⟨m', hs, h1⟩ := iterA_map h
  exact up_map _ _ _ _ _ _ hs (mapA_at h1)
theorem all_into {Γ : List HP} {H K : HP} {i : Nat} (hi : Γ[i]? = some H) {m : Mem} (hm : all (K :: Γ) m) : all (Γ.set i (sep H K)) m := by
  refine all_perm (perm_set _ hi).symm ?_
  have h1 : sep K (all (H :: Γ.eraseIdx i)) m := sep_mono hm (fun _ => id) (fun _ => all_front hi)
  exact sep_assoc' (sep_swap h1)
/-- A part of what stands at place i is left. -/
theorem Sat.less {E : World} {Γ : List HP} {w : World} {H K : HP} {i : Nat} (hi : Γ[i]? = some H) (hk : ∀ m, H m → ∃ m', Mem.sub m' m ∧ K m') (h : Sat E Γ w) : Sat E (Γ.set i K) w :=
  h.weaken fun m hm => by
    obtain ⟨a, b, hd, rfl, ha, hb⟩ := all_front hi hm
    obtain ⟨a', hs, hK⟩ := hk a ha
    have hd' : Mem.disj a' b := fun k => by
      rcases hd k with h | h
      · left
        cases h' : a' k with
        | none => rfl
        | some o => have := hs k o h'; rw [h] at this; cases this
      · exact .inr h
    refine ⟨Mem.join a' b, ?_, all_perm (perm_set K hi).symm ⟨a', b, hd', rfl, hK, hb⟩⟩
    intro k o hk
    cases h' : a' k with
    | some q =>
      have h1 : q = o := by simpa [Mem.join, h'] using hk
      subst h1
      simp [Mem.join, hs k q h']
    | none =>
      have h1 : b k = some o := by simpa [Mem.join, h'] using hk
      rcases hd k with h | h
      · simp [Mem.join, h, h1]
      · rw [h] at h1; cases h1
section
variable {cx : Cx} {ops : Array Oper} {K : Act → World → Prop} {rest : List Oper} {ρ : Env} {ds : List Deferred} {Γ : List HP} {d : Nat} {ty : TypeId} {pos : String} {after : Array Edge} {α β : Type} [DecidableEq α] {kv : α → Value} {vv : β → Value} {mt kt et : TypeId} {x y z : Operand} {b : Nat} {k : α} {es : List (α × β)} {r r' : TR}
omit [DecidableEq α] in
theorem get_set {γ : Type} {l : List γ} {i : Nat} {x : γ} (hi : l[i]? = some x) (y : γ) : (l.set i y)[i]? = some y := by
  have := (List.getElem?_eq_some_iff.1 hi).1
  simp [this]
omit [DecidableEq α] in
theorem PV.lenMap (ea : ev ρ x = .map (some b)) (ht : TabOk cx.P mt r) (hq : r.und = .map kt et) (hm : has Γ (mapAt kv vv b es)) : PV cx.P ρ (Sat cx.E Γ) ⟨some d, .call ⟨.builtin .len, #[x], #[mt]⟩, ty, pos, after, none⟩ (.int .i64 es.length) := fun w hs => by
  obtain ⟨_, _, m, hm', hw⟩ := hs
  obtain ⟨arr, clk, h1, h2⟩ := hm m hm'
  have h3 := run_getMap (P := cx.P) (hw _ _ h1)
  have hlen : arr.size = es.length := by simpa using congrArg List.length h2
  simp [execOp, resolve, invoke, builtin, ea, Builtin.len_, ht.run_und, hq, h3, hlen, goInt]
omit [DecidableEq α] in
/-- A range over a map begins. -/
theorem TL.rangeMap (i : Nat) (hi : Γ[i]? = some (mapA kv vv b es)) (hd : Nat.blt d cx.n = true) (ht : TabOk cx.P mt r) (hq : r.und = .map kt et) (ea : ev ρ x = .map (some b))
    (h : ∀ it : Nat, TL cx ops K rest ((d, .pointer (some ⟨it, 0, none⟩)) :: ρ) ds (Γ.set i (iterA kv vv b it es es none))) : TL cx ops K (⟨some d, .range mt x, ty, pos, after, none⟩ :: rest) ρ ds Γ :=
  .act (X := Nat) (φ := fun _ => True) (v := fun it => .pointer (some ⟨it, 0, none⟩)) (Δ := fun it => Γ.set i (iterA kv vv b it es es none)) hd (fun w hs => by
    obtain ⟨⟨arr, clk⟩, ho, hs1⟩ := hs.at hi (X := Array MapEntry × Nat) (φ := fun p => MapOk kv vv p.1 p.2 es) (K := fun p => pt b (.map p.1 p.2)) (fun m ⟨arr, clk, h0, h1⟩ => ⟨(arr, clk), h1, h0⟩)
    have hi1 := get_set hi (pt b (.map arr clk))
    have hb := hs1.block hi1
    refine ⟨w.heap.size, w.alloc (.mapIter (some b) clk #[] clk), trivial, ?_, ?_⟩
    rotate_left
    · simp only [execOp, ea, Sem.run_bind, run_range_map (P := cx.P) w mt kt et b arr clk (by rw [← hq]; exact ht.1) hb, Result.andThen_ok, Sem.run_pure]
    · have := (hs1.alloc (.mapIter (some b) clk #[] clk)).imp (Δ := Γ.set i (iterA kv vv b w.heap.size es es none)) fun m hm => by
        have h2 := all_into hi1 hm
        simp only [List.set_set] at h2
        have h3 := all_set (K := iterA kv vv b w.heap.size es es none) (get_set hi (sep (pt b (.map arr clk)) (pt w.heap.size (.mapIter (some b) clk #[] clk)))) (fun m' hm' => ⟨arr, clk, #[], hm', ho, by rw [show leftL arr #[] = arr.toList from List.filter_eq_self.2 (by simp)]; exact ho.1, fun p hp => by cases hp⟩) h2
        simpa only [List.set_set] using h3
      exact this) (fun it _ => h it)
omit [DecidableEq α] in
/-- One round more, or none. -/
theorem TL.nextMap (i : Nat) {it : Nat} {rem : List (α × β)} {last : Option (α × β)} (hi : Γ[i]? = some (iterA kv vv b it es rem last)) (hd : Nat.blt d cx.n = true) (ea : ev ρ x = .pointer (some ⟨it, 0, none⟩))
    (h0 : rem = [] → TL cx ops K rest ((d, .tuple #[.bool false]) :: ρ) ds Γ)
    (h1 : ∀ j p, rem[j]? = some p → TL cx ops K rest ((d, .tuple #[.bool true, kv p.1, vv p.2]) :: ρ) ds (Γ.set i (iterA kv vv b it es (rem.eraseIdx j) (some p)))) : TL cx ops K (⟨some d, .next x false, ty, pos, after, none⟩ :: rest) ρ ds Γ :=
  .act (X := Option (Nat × (α × β))) (φ := fun q => match q with | none => rem = [] | some (j, p) => rem[j]? = some p) (v := fun q => match q with | none => .tuple #[.bool false] | some (_, p) => .tuple #[.bool true, kv p.1, vv p.2])
    (Δ := fun q => match q with | none => Γ | some (j, p) => Γ.set i (iterA kv vv b it es (rem.eraseIdx j) (some p))) hd (fun w hs => by
    obtain ⟨⟨⟨arr, clk⟩, seen⟩, ⟨ho, hrem, hlast⟩, hs1⟩ := hs.at hi (X := (Array MapEntry × Nat) × Array Nat) (φ := fun q => MapOk kv vv q.1.1 q.1.2 es ∧ (leftL q.1.1 q.2).map (fun e => (e.key, e.val)) = rem.map (fun p => (kv p.1, vv p.2)) ∧ (∀ p, last = some p → ∃ e ∈ q.1.1.toList, q.2.back? = some e.born ∧ (e.key, e.val) = (kv p.1, vv p.2)))
      (K := fun q => sep (pt b (.map q.1.1 q.1.2)) (pt it (.mapIter (some b) q.1.2 q.2 q.1.2))) (fun m ⟨arr, clk, seen, h0, h1, h2, h3⟩ => ⟨((arr, clk), seen), ⟨h1, h2, h3⟩, h0⟩)
    have hi1 := get_set hi (sep (pt b (.map arr clk)) (pt it (.mapIter (some b) clk seen clk)))
    have hs2 : Sat cx.E (pt b (.map arr clk) :: pt it (.mapIter (some b) clk seen clk) :: Γ.eraseIdx i) w := hs1.imp fun m hm => by
      have := all_front hi1 hm
      rw [List.eraseIdx_set_eq] at this
      exact sep_assoc this
    have hb := hs2.block (i := 0) rfl
    have hit := hs2.block (i := 1) rfl
    have hop : ∀ v w', (Instr.next (.pointer (some ⟨it, 0, none⟩)) false ty).run cx.P w = .ok v w' → (execOp (ev ρ) ⟨some d, .next x false, ty, pos, after, none⟩).run cx.P w = .ok (.value v) w' := fun v w' h => by
      simp only [execOp, ea, Sem.run_bind, h, Result.andThen_ok, Sem.run_pure]
    rcases run_next_at (P := cx.P) w ty b it clk seen arr clk hit hb ho.2.1 with ⟨hl, hrun⟩ | ⟨j, e, w1, hj, hal, hrun⟩
    · refine ⟨none, w, ?_, hs, hop _ _ hrun⟩
      rw [hl] at hrem
      exact List.map_eq_nil_iff.1 hrem.symm
    · have hjr : ∃ p, rem[j]? = some p ∧ (e.key, e.val) = (kv p.1, vv p.2) := by
        have := congrArg (fun l => l[j]?) hrem
        simp only [List.getElem?_map, hj, Option.map_some] at this
        obtain ⟨p, h1, h2⟩ := Option.map_eq_some_iff.1 this.symm
        exact ⟨p, h1, h2.symm⟩
      obtain ⟨p, hp, hep⟩ := hjr
      obtain ⟨hk1, hv1⟩ := Prod.mk.inj hep
      refine ⟨some (j, p), _, hp, ?_, hop _ _ (by rw [hrun, hk1, hv1])⟩
      have hs3 := hs2.alike hal
      have hlt : it < w1.heap.size := by rw [hal.1]; exact (Array.getElem?_eq_some_iff.1 hit).1
      have hput := hs3.put (w' := { w1 with heap := w1.heap.setIfInBounds it (.mapIter (some b) clk (seen.push e.born) clk) }) (i := 1) rfl (o' := .mapIter (some b) clk (seen.push e.born) clk) rfl rfl rfl (by simp [hlt]) (fun q hq o ho => by rw [heap_set w1 it q _ hq]; exact ho)
      refine hput.imp fun m hm => ?_
      refine all_perm (perm_set _ hi).symm (sep_mono (sep_assoc' hm) (fun m' hm' => ?_) (fun _ => id))
      have heL : e ∈ leftL arr seen := List.mem_of_getElem? hj
      refine ⟨arr, clk, seen.push e.born, hm', ho, ?_, fun p' hp' => ?_⟩
      · rw [leftL_push, filter_born e _ j (leftL_nodup seen ho.2.2) hj, ← eraseIdx_map, hrem, eraseIdx_map]
      · injection hp' with hp'
        subst hp'
        exact ⟨e, (List.mem_filter.1 heL).1, by simp, hep⟩) (fun q hq => by
    match q, hq with
    | none, hq => exact h0 hq
    | some (j, p), hq => exact h1 j p hq)
omit [DecidableEq α] in
theorem PV.entryMap (i : Nat) {it : Nat} {rem : List (α × β)} {p : α × β} (hi : Γ[i]? = some (iterA kv vv b it es rem (some p))) (ea : ev ρ x = .pointer (some ⟨it, 0, none⟩)) : PV cx.P ρ (Sat cx.E Γ) ⟨some d, .entry x, ty, pos, after, none⟩ (.tuple #[kv p.1, vv p.2]) := fun w hs => by
  obtain ⟨_, _, m, hm, hw⟩ := hs
  obtain ⟨y, z, hd, rfl, ⟨arr, clk, seen, ⟨u, v, hd2, rfl, hu, hv⟩, ho, hrem, hlast⟩, _⟩ := all_front hi hm
  obtain ⟨e, he, hback, hep⟩ := hlast p rfl
  obtain ⟨hk1, hv1⟩ := Prod.mk.inj hep
  have hb : w.heap[b]? = some (.map arr clk) := hw _ _ (Mem.sub_left _ z _ _ (Mem.sub_left u v _ _ (by rw [hu b]; simp)))
  have hit : w.heap[it]? = some (.mapIter (some b) clk seen clk) := hw _ _ (Mem.sub_left _ z _ _ (Mem.sub_right hd2 _ _ (by rw [hv it]; simp)))
  simp only [execOp, ea, Sem.run_bind, run_entry_at (P := cx.P) w b it clk seen arr e hit hb he hback ho.2.2, Result.andThen_ok, Sem.run_pure, hk1, hv1]
omit [DecidableEq α] in
/-- The range is over: the iterator is let go. -/
theorem TK.iterEnd (i : Nat) {it : Nat} {k : List Item} {rem : List (α × β)} {last : Option (α × β)} (hi : Γ[i]? = some (iterA kv vv b it es rem last)) (h : TK cx k ρ ds (Γ.set i (mapA kv vv b es))) : TK cx k ρ ds Γ := fun a w hr hs => h a w hr (hs.less hi fun _ hm => iterA_map hm)
omit [DecidableEq α] in
theorem TL.iterEnd (i : Nat) {it : Nat} {rem : List (α × β)} {last : Option (α × β)} (hi : Γ[i]? = some (iterA kv vv b it es rem last)) (h : TL cx ops K rest ρ ds (Γ.set i (mapA kv vv b es))) : TL cx ops K rest ρ ds Γ := fun a w hr hs => h a w hr (hs.less hi fun _ hm => iterA_map hm)
/-- An entry is taken out. -/
theorem run_del (i : Nat) (hi : Γ[i]? = some (mapA kv vv b es)) (hk : KeyOk cx.P kt kv) (ht : TabOk cx.P mt r) (hq : r.und = .map kt et) (hu : ∃ kd, cx.P.underlying kt = some kd) {ts : Array TypeId} (hts : ts[0]? = some mt) (w : World) (hs : Sat cx.E Γ w) :
    ∃ w', Sat cx.E (Γ.set i (mapA kv vv b (dropE es k))) w' ∧ (Builtin.delete_ ts ty #[.map (some b), kv k]).run cx.P w = .ok (.tuple #[]) w' := by
  obtain ⟨⟨arr, clk⟩, ⟨h1, h2, h3⟩, hs1⟩ := hs.at hi (X := Array MapEntry × Nat) (φ := fun p => MapOk kv vv p.1 p.2 es) (K := fun p => pt b (.map p.1 p.2)) (fun m ⟨arr, clk, h0, h1⟩ => ⟨(arr, clk), h1, h0⟩)
  simp only at h1 h2 h3
  have hi1 := get_set hi (pt b (.map arr clk))
  have hb := hs1.block hi1
  have hlt : b < w.heap.size := (Array.getElem?_eq_some_iff.1 hb).1
  obtain ⟨kd, hu⟩ := hu
  obtain ⟨h4, h5⟩ := run_find (P := cx.P) hk hu k h1 w
  have fin : ∀ arr', MapOk kv vv arr' clk (dropE es k) → Sat cx.E (Γ.set i (mapA kv vv b (dropE es k))) { w with heap := w.heap.setIfInBounds b (.map arr' clk) } := fun arr' ho => by
    have hput := hs1.put (w' := { w with heap := w.heap.setIfInBounds b (.map arr' clk) }) hi1 (o' := .map arr' clk) rfl rfl rfl (by simp [hlt]) (fun q hq o ho => by rw [heap_set w b q _ hq]; exact ho)
    simp only [List.set_set] at hput
    have := hput.imp fun m hm => all_set (K := mapA kv vv b (dropE es k)) (get_set hi (pt b (.map arr' clk))) (fun m' hm' => ⟨arr', clk, hm', ho⟩) hm
    simpa only [List.set_set] using this
  cases hf : (es.map (·.1)).findIdx? (fun x => decide (k = x)) with
  | none =>
    rw [hf] at h4 h5
    have hn : lookE es k = none := by simpa using h5.symm
    refine ⟨_, fin arr ?_, ?_⟩
    · rw [dropE_none hn]; exact ⟨h1, h2, h3⟩
    · simp only [Builtin.delete_, hts, Sem.run_bind, ht.run_und, hq, Result.andThen_ok, run_getMap hb, hk.check, h4, Option.map_none, run_setMap hb, Sem.run_pure, List.getElem?_toArray, List.getElem?_cons_zero, List.getElem?_cons_succ]
  | some j =>
    rw [hf] at h4
    have hje : j < es.length := by
      have := (List.findIdx?_eq_some_iff_findIdx_eq.1 hf).1
      simpa using this
    have hlen : arr.toList.length = es.length := by simpa using congrArg List.length h1
    have hja : j < arr.size := by simpa using (hlen ▸ hje : j < arr.toList.length)
    have hel : (arr.eraseIdxIfInBounds j).toList = arr.toList.eraseIdx j := by
      unfold Array.eraseIdxIfInBounds
      simp [hja]
    refine ⟨_, fin (arr.eraseIdxIfInBounds j) ⟨?_, ?_, ?_⟩, ?_⟩
    · rw [hel, ← eraseIdx_map, h1, eraseIdx_map, dropE_idx hf]
    · intro e he
      rw [hel] at he
      exact h2 e (List.mem_of_mem_eraseIdx he)
    · rw [hel]
      exact ((List.eraseIdx_sublist _ _).map _).nodup h3
    · simp only [Builtin.delete_, hts, Sem.run_bind, ht.run_und, hq, Result.andThen_ok, run_getMap hb, hk.check, h4, Option.map_some, run_setMap hb, Sem.run_pure, List.getElem?_toArray, List.getElem?_cons_zero, List.getElem?_cons_succ]
/-- An operation whose value nobody takes. -/
theorem TL.actN {op : Op} {v : Value} {Δ : List HP}
    (hrun : ∀ w, Sat cx.E Γ w → ∃ w', Sat cx.E Δ w' ∧ (execOp (ev ρ) ⟨none, op, ty, pos, after, none⟩).run cx.P w = .ok (.value v) w')
    (h : TL cx ops K rest ρ ds Δ) : TL cx ops K (⟨none, op, ty, pos, after, none⟩ :: rest) ρ ds Γ := by
  intro a w hr hs
  obtain ⟨w', hs', e⟩ := hrun w hs
  exact wpL_value rfl (by rw [hr.ev]; exact e) (h _ _ (hr.none _) hs')
theorem TL.delMap (i : Nat) {ts : Array TypeId} (hi : Γ[i]? = some (mapA kv vv b es)) (hts : ts[0]? = some mt) (ht : TabOk cx.P mt r) (hq : r.und = .map kt et) (hk : KeyOk cx.P kt kv) (hu : ∃ kd, cx.P.underlying kt = some kd) (ea : ev ρ x = .map (some b)) (eb : ev ρ y = kv k)
    (h : TL cx ops K rest ρ ds (Γ.set i (mapA kv vv b (dropE es k)))) : TL cx ops K (⟨none, .call ⟨.builtin .delete, #[x, y], ts⟩, ty, pos, after, none⟩ :: rest) ρ ds Γ :=
  .actN (v := .tuple #[]) (fun w hs => by
    obtain ⟨w', h1, h2⟩ := run_del (ty := ty) (k := k) i hi hk ht hq hu hts w hs
    exact ⟨w', h1, by simp [execOp, resolve, invoke, builtin, ea, eb, h2]⟩) h
/-- An entry is laid in, or gets another value. -/
theorem TL.mapPutG {op : Op} (hop : op = .mapUpdate mt x y z ∨ op = .insert mt x y z) (i : Nat) {v : Value} {nv : β} (hi : Γ[i]? = some (mapA kv vv b es)) (hk : KeyOk cx.P kt kv) (ht : TabOk cx.P mt r) (hq : r.und = .map kt et) (hu : ∃ kd, cx.P.underlying kt = some kd) (ea : ev ρ x = .map (some b)) (eb : ev ρ y = kv k) (ec : ev ρ z = v) (hv : v = vv nv)
    (h : TL cx ops K rest ρ ds (Γ.set i (mapA kv vv b (setE es k nv)))) : TL cx ops K (⟨none, op, ty, pos, after, none⟩ :: rest) ρ ds Γ :=
  .act0 (fun w hs => by
    obtain ⟨⟨arr, clk⟩, ⟨h1, h2, h3⟩, hs1⟩ := hs.at hi (X := Array MapEntry × Nat) (φ := fun p => MapOk kv vv p.1 p.2 es) (K := fun p => pt b (.map p.1 p.2)) (fun m ⟨arr, clk, h0, h1⟩ => ⟨(arr, clk), h1, h0⟩)
    simp only at h1 h2 h3
    have hi1 := get_set hi (pt b (.map arr clk))
    have hb := hs1.block hi1
    have hlt : b < w.heap.size := (Array.getElem?_eq_some_iff.1 hb).1
    obtain ⟨kd, hu⟩ := hu
    obtain ⟨h4, h5⟩ := run_find (P := cx.P) hk hu k h1 w
    have fin : ∀ arr' clk', MapOk kv vv arr' clk' (setE es k nv) → Sat cx.E (Γ.set i (mapA kv vv b (setE es k nv))) { w with heap := w.heap.setIfInBounds b (.map arr' clk') } := fun arr' clk' ho => by
      have hput := hs1.put (w' := { w with heap := w.heap.setIfInBounds b (.map arr' clk') }) hi1 (o' := .map arr' clk') rfl rfl rfl (by simp [hlt]) (fun q hq o ho => by rw [heap_set w b q _ hq]; exact ho)
      simp only [List.set_set] at hput
      have := hput.imp fun m hm => all_set (K := mapA kv vv b (setE es k nv)) (get_set hi (pt b (.map arr' clk'))) (fun m' hm' => ⟨arr', clk', hm', ho⟩) hm
      simpa only [List.set_set] using this
    have hlen : arr.toList.length = es.length := by simpa using congrArg List.length h1
    cases hf : (es.map (·.1)).findIdx? (fun x => decide (k = x)) with
    | none =>
      rw [hf] at h4 h5
      have hn : lookE es k = none := by simpa using h5.symm
      refine ⟨_, fin (arr.push { key := kv k, val := v, born := clk }) (clk + 1) ⟨?_, ?_, ?_⟩, ?_⟩
      · rw [Array.toList_push, List.map_append, h1, setE_none hn, List.map_append, hv]; rfl
      · intro e hee
        rw [Array.toList_push, List.mem_append] at hee
        rcases hee with hee | hee
        · exact Nat.lt_succ_of_lt (h2 e hee)
        · simp at hee; subst hee; exact Nat.lt_succ_self _
      · rw [Array.toList_push, List.map_append, List.nodup_append]
        refine ⟨h3, by simp, ?_⟩
        intro a ha c hc
        simp at hc
        subst hc
        obtain ⟨e, he1, rfl⟩ := List.mem_map.1 ha
        exact Nat.ne_of_lt (h2 e he1)
      · rcases hop with rfl | rfl <;> simp only [execOp, Instr.mapUpdate, Sem.run_bind, ht.run_und, hq, Result.andThen_ok, ea, eb, ec, run_getMap hb, hk.check, h4, Option.map_none, run_setMap hb, Sem.run_pure]
    | some j =>
      rw [hf] at h4
      obtain ⟨hje, hjk⟩ := setE_idx (v := nv) hf
      have hja : j < arr.size := by
        have : j < arr.toList.length := by rw [hlen]; exact (List.getElem?_eq_some_iff.1 hje.choose_spec.1).1
        simpa using this
      have hkey : ((arr[j]?).map (·.key)).getD (kv k) = kv k := by
        obtain ⟨p, hp, hpk⟩ := hje
        have := congrArg (fun l => l[j]?) h1
        simp only [List.getElem?_map, hp, Option.map_some, Array.getElem?_toList] at this
        obtain ⟨e, he1, he2⟩ := Option.map_eq_some_iff.1 this
        rw [he1]
        simp only [Option.map_some, Option.getD_some]
        rw [(Prod.mk.inj he2).1, hpk]
      have hborn : (arr.modify j fun e => { e with key := kv k, val := v }).toList.map (·.born) = arr.toList.map (·.born) := by
        rw [Array.toList_modify, map_mod (fun e : MapEntry => e.born) (fun e => { e with key := kv k, val := v }) id (fun _ => rfl)]
        apply List.ext_getElem?
        intro q
        rw [List.getElem?_modify]
        split <;> simp
      refine ⟨_, fin (arr.modify j fun e => { e with key := kv k, val := v }) clk ⟨?_, ?_, ?_⟩, ?_⟩
      · rw [Array.toList_modify, map_mod (fun e : MapEntry => (e.key, e.val)) (fun e => { e with key := kv k, val := v }) (fun _ => (kv k, v)) (fun _ => rfl), h1, ← hjk, map_mod (fun p : α × β => (kv p.1, vv p.2)) (fun _ => (k, nv)) (fun _ => (kv k, v)) (fun _ => by rw [hv])]
      · intro e he
        have hx : e.born ∈ (arr.modify j fun e => { e with key := kv k, val := v }).toList.map (·.born) := List.mem_map.2 ⟨e, he, rfl⟩
        rw [hborn] at hx
        obtain ⟨e', he', hee⟩ := List.mem_map.1 hx
        rw [← hee]; exact h2 e' he'
      · rw [hborn]; exact h3
      · rcases hop with rfl | rfl <;> simp only [execOp, Instr.mapUpdate, Sem.run_bind, ht.run_und, hq, Result.andThen_ok, ea, eb, ec, run_getMap hb, hk.check, h4, Option.map_some, hkey, hk.stay, run_setMap hb, Sem.run_pure]) h
theorem TL.mapPut (i : Nat) {v : Value} {nv : β} (hi : Γ[i]? = some (mapA kv vv b es)) (hk : KeyOk cx.P kt kv) (ht : TabOk cx.P mt r) (hq : r.und = .map kt et) (hu : ∃ kd, cx.P.underlying kt = some kd) (ea : ev ρ x = .map (some b)) (eb : ev ρ y = kv k) (ec : ev ρ z = v) (hv : v = vv nv)
    (h : TL cx ops K rest ρ ds (Γ.set i (mapA kv vv b (setE es k nv)))) : TL cx ops K (⟨none, .mapUpdate mt x y z, ty, pos, after, none⟩ :: rest) ρ ds Γ := .mapPutG (.inl rfl) i hi hk ht hq hu ea eb ec hv h
theorem TL.mapIns (i : Nat) {v : Value} {nv : β} (hi : Γ[i]? = some (mapA kv vv b es)) (hk : KeyOk cx.P kt kv) (ht : TabOk cx.P mt r) (hq : r.und = .map kt et) (hu : ∃ kd, cx.P.underlying kt = some kd) (ea : ev ρ x = .map (some b)) (eb : ev ρ y = kv k) (ec : ev ρ z = v) (hv : v = vv nv)
    (h : TL cx ops K rest ρ ds (Γ.set i (mapA kv vv b (setE es k nv)))) : TL cx ops K (⟨none, .insert mt x y z, ty, pos, after, none⟩ :: rest) ρ ds Γ := .mapPutG (.inr rfl) i hi hk ht hq hu ea eb ec hv h
end
end Go.Proofs.Ytndmjpceocecdaa.E

/- MY OWN LAYER: structs of plain fields compared. P is a variable. -/
namespace Go.Proofs.Ytndmjpceocecdaa.E
open Go Go.RowKit
def eqC : TypeDesc → Value → Value → Option Bool
  | .bool, .bool a, .bool b => some (a == b)
  | .int _, .int k a, .int k' b => if k = k' then some (a == b) else none
  | .string, .string a, .string b => some (a == b)
  | _, _, _ => none
def eqFs (tab : List TR) (xs ys : List Value) : List Field → Option Bool
  | [] => some true
  | f :: fs => if f.name = "_" then none else (tab[f.type]?).bind fun r => if isAggD r.und then none else (xs[f.offset]?).bind fun x => (ys[f.offset]?).bind fun y => (eqC r.und x y).bind fun c => (eqFs tab xs ys fs).map fun c' => c && c'
theorem run_eqC {P : Program} {t : TypeId} {r : TR} (ht : TabOk P t r) {x y : Value} {c : Bool} (h : eqC r.und x y = some c) (d : Nat) (w : World) : (Op.equalIn (d + 1) t x y).run P w = .ok c w := by
  simp only [Op.equalIn, Sem.run_bind, ht.run_und, Result.andThen_ok]
  unfold eqC at h
  split at h
  · rename_i e1; injection h with h; subst h; rw [e1]; rfl
  · rename_i e1
    split at h
    · rename_i e2; injection h with h; subst h; subst e2; rw [e1]; simp
    · cases h
  · rename_i e1; injection h with h; subst h; rw [e1]; rfl
  · cases h
theorem run_eqFs {P : Program} {tab : List TR} (hT : TabsOk P tab) (xs ys : List Value) (d : Nat) (w : World) : ∀ (fs : List Field) (b : Bool), eqFs tab xs ys fs = some b → (Op.eqFields (d + 1) xs.toArray ys.toArray fs).run P w = .ok b w
  | [], b, h => by simp only [eqFs, Option.some.injEq] at h; subst h; rfl
  | f :: fs, b, h => by
    unfold eqFs at h
    split at h
    · cases h
    rename_i hn
    simp only [Option.bind_eq_some_iff] at h
    obtain ⟨r, hr, h⟩ := h
    split at h
    · cases h
    rename_i ha
    simp only [Option.bind_eq_some_iff, Option.map_eq_some_iff] at h
    obtain ⟨x, hx, y, hy, c, hc, c', hc', rfl⟩ := h
    have ih := run_eqFs hT xs ys d w fs c' hc'
    have hr := hT _ _ hr
    have hp : ∀ zs : List Value, ∀ z, zs[f.offset]? = some z → (part f.type zs.toArray f.offset).run P w = .ok z w := fun zs z hz => by
      simp only [part, Sem.run_bind, hr.run_agg, Result.andThen_ok, Bool.not_eq_true _ ▸ ha, Sem.run_ite, List.getElem?_toArray, hz]
      simp
    simp only [Op.eqFields, if_pos hn, Sem.run_bind, hp xs x hx, hp ys y hy, Result.andThen_ok, run_eqC hr hc d w, Sem.run_ite]
    cases c
    · simp
    · simp [ih]
section
variable {P : Program} {ρ : Env} {d : Nat} {ty : TypeId} {pos : String} {after : Array Edge} {Sw : World → Prop} {tab : List TR}
theorem fieldsOf_of {t : TypeId} {r : TR} {fs : List Field} (ht : TabOk P t r) (hq : r.und = .struct fs.toArray) : P.underlying t = some (.struct (P.fieldsOf t)) ∧ (P.fieldsOf t).toList = fs := by
  have h := ht.1
  rw [hq] at h
  unfold Program.fieldsOf
  rw [h]
  exact ⟨rfl, rfl⟩
theorem PV.eqSt {t t' : TypeId} {x y : Operand} {xs ys : List Value} {r : TR} {fs : List Field} {b : Bool} (hT : TabsOk P tab) (ea : ev ρ x = .agg xs.toArray) (eb : ev ρ y = .agg ys.toArray) (ht : tab[t]? = some r) (hq : r.und = .struct fs.toArray) (hm : P.eqGuardType P.depth t = false) (hs : P.stoodInHeld t = false) (h : eqFs tab xs ys fs = some b) :
    PV P ρ Sw ⟨some d, .binOp .eql t x y t', ty, pos, after, none⟩ (.bool b) := fun w _ => by
  have hf := fieldsOf_of (hT _ _ ht) hq
  have h1 := run_eqFs hT xs ys 9998 w fs b h
  rw [← hf.2, ← run_equalIn_agg w 9999 t xs.toArray ys.toArray hf.1 hs] at h1
  simp only [execOp, ea, eb, Sem.run_bind, run_eqGuard_agg w .eql t x y _ _ hm, Result.andThen_ok, run_eql_struct, h1]
  rfl
theorem PV.neSt {t t' : TypeId} {x y : Operand} {xs ys : List Value} {r : TR} {fs : List Field} {b : Bool} (hT : TabsOk P tab) (ea : ev ρ x = .agg xs.toArray) (eb : ev ρ y = .agg ys.toArray) (ht : tab[t]? = some r) (hq : r.und = .struct fs.toArray) (hm : P.eqGuardType P.depth t = false) (hs : P.stoodInHeld t = false) (h : eqFs tab xs ys fs = some b) :
    PV P ρ Sw ⟨some d, .binOp .neq t x y t', ty, pos, after, none⟩ (.bool (!b)) := fun w _ => by
  have hf := fieldsOf_of (hT _ _ ht) hq
  have h1 := run_eqFs hT xs ys 9998 w fs b h
  rw [← hf.2, ← run_equalIn_agg w 9999 t xs.toArray ys.toArray hf.1 hs] at h1
  simp only [execOp, ea, eb, Sem.run_bind, run_eqGuard_agg w .neq t x y _ _ hm, Result.andThen_ok, run_neq_struct, h1]
  rfl
end
end Go.Proofs.Ytndmjpceocecdaa.E

/- MY OWN LAYER: []byte(s), which is written to. P is a variable. -/
namespace Go.Proofs.Ytndmjpceocecdaa.E
open Go Go.RowKit
/-- Cells at the beginning of a block that was made of a string. -/
def rowF (b : Nat) (l : List Value) (e : TypeId) : HP := fun m => ∃ (l2 : List Value) (k : Nat), l.length ≤ k ∧ pt b (.cells (l ++ l2).toArray e (k, k + 1)) m
theorem rowF_src {b : Nat} {vs : List Value} {e : TypeId} {m : Mem} (h : rowF b vs e m) {n : Nat} (hn : vs.length = n) : srcAt 1 (some ⟨b, 0, none⟩) n vs m := by
  obtain ⟨l, k, _, h⟩ := h
  refine ⟨by omega, .inr ⟨b, 0, rfl, fun j v hj => ⟨(vs ++ l).toArray, e, (k, k + 1), by rw [h b]; simp, ?_⟩⟩⟩
  have := (List.getElem?_eq_some_iff.1 hj).1
  simp [List.getElem?_append_left this, hj]
theorem run_store1 (P : Program) (b o e : Nat) (fz : Nat × Nat) (cur : Array Value) (w : World) {v : Value} (hg : w.heap[b]? = some (.cells cur e fz)) (ho : o < cur.size) (hf : o < fz.1) (h1 : v.oneCell' = true) :
    (storeCells ⟨b, o, none⟩ [v] 0).run P w = .ok () (w.setRow b (cur.setIfInBounds o v)) := by
  have hadd : (⟨b, o, none⟩ : Addr).add 0 = ⟨b, o, none⟩ := by unfold Addr.add; split <;> simp_all
  have hcell : w.cell? ⟨b, o, none⟩ = some cur[o] := by simp [World.cell?, hg, ho]
  have hfro : w.frozen? ⟨b, o, none⟩ = false := by
    obtain ⟨lo, hi'⟩ := fz
    simp only [World.frozen?, hg, Bool.and_eq_false_iff, decide_eq_false_iff_not]
    left
    simp only at hf
    omega
  have hst : (store ((⟨b, o, none⟩ : Addr).add 0) v).run P w = .ok () (w.setRow b (cur.setIfInBounds o v)) := by
    rw [hadd, run_store P w _ v _ h1, hcell]
    simp [hfro, setCell_eq_setRow w b o cur e fz v hg]
  simp only [storeCells, Sem.run_bind, hst, Result.andThen_ok]
  rfl
section
variable {cx : Cx} {ops : Array Oper} {K : Act → World → Prop} {rest : List Oper} {ρ : Env} {ds : List Deferred} {Γ : List HP} {d : Nat} {ty : TypeId} {pos : String} {after : Array Edge}
/-- []byte(s), to be written to. -/
theorem TL.convSBw {t t' e : TypeId} {x : Operand} {a : List UInt8} {r r' r'' : TR} (hd : Nat.blt d cx.n = true) (ea : ev ρ x = .string (S a)) (ht : TabOk cx.P t r) (ht' : TabOk cx.P t' r') (hq : r'.und = .slice e) (he : TabOk cx.P e r'') (hu : r''.und = .int .u8)
    (h : ∀ b c, a.length ≤ c → TL cx ops K rest ((d, .slice (some ⟨b, 0, none⟩) a.length c) :: ρ) ds (rowF b (bytesV a) e :: Γ)) : TL cx ops K (⟨some d, .convert t t' x, ty, pos, after, none⟩ :: rest) ρ ds Γ :=
  .act (X := Nat × Nat) (φ := fun p => a.length ≤ p.2) (v := fun p => .slice (some ⟨p.1, 0, none⟩) a.length p.2) (Δ := fun p => rowF p.1 (bytesV a) e :: Γ) hd (fun w hs => by
    have h1 := Lib.run_convert_string_bytes (P := cx.P) w t t' e (S a) ht.1 (by rw [ht'.1, hq]) (by rw [he.1, hu])
    refine ⟨(w.heap.size, grownCap w (S a).size 0 e), _, grownCap_ge w _ _ e, ?_, by rw [show execOp (ev ρ) ⟨some d, .convert t t' x, ty, pos, after, none⟩ = (do pure (.value (← convert t t' (ev ρ x)))) from rfl, ea]; simp only [Sem.run_bind, h1, Result.andThen_ok]; rfl⟩
    have hnew : Sat cx.E (pt w.heap.size (.cells (Lib.bytesCells w e (S a)) e ((Lib.bytesCells w e (S a)).size, (Lib.bytesCells w e (S a)).size + 1)) :: Γ) (Lib.bytesWorld w e (S a)) :=
      hs.new rfl rfl rfl (by simp) (Lib.bytesWorld_at_new w e (S a)) fun k q hq => by
        have hk : k < w.heap.size := (Array.getElem?_eq_some_iff.1 hq).1
        rw [Lib.bytesWorld_at_old w e (S a) k hk]; exact hq
    have heq : (bytesV a ++ List.replicate (grownCap w (S a).size 0 e - (S a).size) (Value.int .u8 0)).toArray = Lib.bytesCells w e (S a) := by
      unfold Lib.bytesCells bytesV S
      apply Array.ext'
      simp
    refine hnew.imp fun m hm => sep_mono hm (fun q hq => ⟨List.replicate (grownCap w (S a).size 0 e - (S a).size) (.int .u8 0), (Lib.bytesCells w e (S a)).size, ?_, ?_⟩) (fun _ => id)
    · rw [← heq]; simp
    · rw [heq]; exact hq) (fun p hp => h p.1 p.2 hp)
/-- A store into it. -/
theorem TL.storeF {t e : TypeId} {x y : Operand} {b o : Nat} {v : Value} {l l' : List Value} {r : TR} {Δ : List HP} (i : Nat) (hi : Γ[i]? = some (rowF b l e)) (ea : ev ρ x = .pointer (some ⟨b, o, none⟩)) (eb : ev ρ y = v) (h1 : v.oneCell' = true) (ht : TabOk cx.P t r) (hr1 : (r.size == 1) = true) (ho : o < l.length)
    (hl : l.set o v = l') (hΔ : Γ.set i (rowF b l' e) = Δ) (h : TL cx ops K rest ρ ds Δ) : TL cx ops K (⟨none, .store t x y, ty, pos, after, none⟩ :: rest) ρ ds Γ := by
  subst hl; subst hΔ
  intro a w hr hs
  obtain ⟨⟨l2, k⟩, hk, hs1⟩ := hs.at hi (X := List Value × Nat) (φ := fun p => l.length ≤ p.2) (K := fun p => pt b (.cells (l ++ p.1).toArray e (p.2, p.2 + 1))) (fun m hm => by
    obtain ⟨l2, k, h2, h3⟩ := hm
    exact ⟨(l2, k), h2, h3⟩)
  simp only at hk hs1
  have hlt := (List.getElem?_eq_some_iff.1 hi).1
  have hi2 : (Γ.set i (pt b (.cells (l ++ l2).toArray e (k, k + 1))))[i]? = some (pt b (.cells (l ++ l2).toArray e (k, k + 1))) := by simp [hlt]
  refine TL.act0 (Γ := Γ.set i (pt b (.cells (l ++ l2).toArray e (k, k + 1)))) (Δ := Γ.set i (rowF b (l.set o v) e)) (fun w hs => ?_) h a w hr hs1
  have hb := hs.block hi2
  have hc : v.cells = #[v] := by cases v <;> simp [Value.cells, Value.oneCell'] at h1 ⊢
  have hst := run_store1 cx.P b o e (k, k + 1) (l ++ l2).toArray w hb (by simp; omega) (by show o < k; omega) h1
  have hr1' : r.size = 1 := by simpa using hr1
  refine ⟨w.setRow b ((l ++ l2).toArray.setIfInBounds o v), ?_, by simp only [execOp, ea, eb, Instr.storeAt, Instr.sureAddr, storeVar, hc, ht.run_size, hr1', Sem.run_bind, Result.andThen_ok, Sem.run_pure]; simp [hst]⟩
  have hp := hs.put (w' := w.setRow b ((l ++ l2).toArray.setIfInBounds o v)) hi2 rfl rfl rfl (setRow_heap w b _ _ e _ hb) fun k hk q hq => (setRow_other w b _ k hk).trans hq
  rw [List.set_set] at hp
  refine hp.imp fun m hm => ?_
  refine all_perm (perm_set (rowF b (l.set o v) e) hi).symm ?_
  refine sep_mono (all_perm (perm_set _ hi) hm) (fun q hq => ⟨l2, k, by rw [List.length_set]; exact hk, ?_⟩) (fun _ => id)
  rw [show (l.set o v ++ l2).toArray = (l ++ l2).toArray.setIfInBounds o v by simp [List.set_append_left _ _ ho]]
  exact hq
end
end Go.Proofs.Ytndmjpceocecdaa.E

/- MY OWN LAYER: functions that panic, function values that caught something, deferred calls. P is a variable. -/
namespace Go.Proofs.Ytndmjpceocecdaa.E
open Go Go.RowKit
section
variable {cx : Cx} {ops : Array Oper} {K : Act → World → Prop} {rest : List Oper} {ρ : Env} {ds : List Deferred} {Γ : List HP} {d : Nat} {ty : TypeId} {pos : String} {after : Array Edge} {k : List Item}
/-- What is claimed at the end of the function, of a world. -/
def Cx.post (cx : Cx) (e : Ending) (w : World) : Prop := ∃ Γ, cx.R e Γ ∧ Sat cx.E Γ w
/-- A panic is on its way, with these deferred calls. -/
def Pan (cx : Cx) (ρ : Env) (ds : List Deferred) (ch : List PanicEntry) (Γ : List HP) : Prop :=
  cx.rd = none ∧ ((ds = [] ∧ cx.R (.panicked ch) Γ) ∨ (cx.md = some none ∧ ∀ a w, Rp cx.n ρ ds a → Sat cx.E Γ w → Leaves cx.P cx.fn a.tmps cx.post ds (.panicking ch) w))
theorem Pan.none {ch : List PanicEntry} (hrd : cx.rd = none) (h : cx.R (.panicked ch) Γ) : Pan cx ρ [] ch Γ := ⟨hrd, .inl ⟨rfl, h⟩⟩
theorem pan_q {ch : List PanicEntry} (h : Pan cx ρ ds ch Γ) {a : Act} {w : World} (hr : Rp cx.n ρ ds a) (hs : Sat cx.E Γ w) : Qk cx K (.panic ch) a w := by
  have hd : a.defers = ds := hr.defers
  obtain ⟨h1, ⟨h2, h3⟩ | ⟨h2, h3⟩⟩ := h
  · exact ⟨h1, .inl ⟨hd.trans h2, Γ, h3, hs⟩⟩
  · refine ⟨h1, .inr ⟨h2, ?_⟩⟩
    rw [hd]
    exact h3 a w hr hs
/-- A call of a function that may panic. -/
theorem TL.callP {f : FuncId} {xs : List Operand} {vs : List Value} {ts : Array TypeId} {Δ : List HP} {R : Ending → List HP → Prop} (hd : Nat.blt d cx.n = true) (hc : Callable cx.P f) (ha : xs.map (ev ρ) = vs) (hΓ : ∀ m, all Γ m → all Δ m) (hf : Fn cx.P f vs Δ R)
    (hpan : ∀ ch Γ', R (.panicked ch) Γ' → Pan cx ρ ds ch Γ') (hout : ∀ Γ', ¬ R .outgrown Γ') (h : ∀ v Γ', R (.returned v) Γ' → TL cx ops K rest ((d, v) :: ρ) ds Γ') : TL cx ops K (⟨some d, .call ⟨.value (.func f), xs.toArray, ts⟩, ty, pos, after, none⟩ :: rest) ρ ds Γ := by
  intro a w hr hs
  obtain ⟨fn, h1, h2, h3⟩ := hc
  have hx : (execOp a.eval ⟨some d, .call ⟨.value (.func f), xs.toArray, ts⟩, ty, pos, after, none⟩).run cx.P w = .ok (.enter f vs.toArray) w := by
    rw [hr.ev, ← ha]
    have h2' : ¬ fn.name = "runtime.NumGoroutine" := by simpa using h2
    have h3' : ¬ fn.body = none := by intro h; rw [h] at h3; cases h3
    simp [execOp, resolve, ev, Deferred.ofValue, invoke, callFunc, h1, h2', h3', program, Sem.run]
  refine wpL_enter rfl hx (Calls.mono (hf cx.E w (hs.imp hΓ)) ?_)
  rintro e w' ⟨Γ', hR, hs'⟩
  cases e with
  | returned v => exact h v Γ' hR _ _ (hr.put d v hd) hs'
  | panicked ch => exact pan_q (hpan ch Γ' hR) hr hs'
  | outgrown => exact (hout Γ' hR).elim
/-- A function value is called: what it caught comes behind the arguments. -/
theorem TL.callF {f : FuncId} {x : Operand} {xs : List Operand} {fs cs vs : List Value} {ts : Array TypeId} {Δ : List HP} {R : Ending → List HP → Prop} (hd : Nat.blt d cx.n = true) (ea : ev ρ x = .func (.func f) fs.toArray cs.toArray) (hc : Callable cx.P f) (ha : fs ++ xs.map (ev ρ) ++ cs = vs) (hΓ : ∀ m, all Γ m → all Δ m) (hf : Fn cx.P f vs Δ R)
    (hpan : ∀ ch Γ', R (.panicked ch) Γ' → Pan cx ρ ds ch Γ') (hout : ∀ Γ', ¬ R .outgrown Γ') (h : ∀ v Γ', R (.returned v) Γ' → TL cx ops K rest ((d, v) :: ρ) ds Γ') : TL cx ops K (⟨some d, .call ⟨.value x, xs.toArray, ts⟩, ty, pos, after, none⟩ :: rest) ρ ds Γ := by
  intro a w hr hs
  obtain ⟨fn, h1, h2, h3⟩ := hc
  have hx : (execOp a.eval ⟨some d, .call ⟨.value x, xs.toArray, ts⟩, ty, pos, after, none⟩).run cx.P w = .ok (.enter f vs.toArray) w := by
    rw [hr.ev, ← ha]
    have h2' : ¬ fn.name = "runtime.NumGoroutine" := by simpa using h2
    have h3' : ¬ fn.body = none := by intro h; rw [h] at h3; cases h3
    simp [execOp, resolve, ea, Deferred.ofValue, invoke, callFunc, h1, h2', h3', program, Sem.run]
  refine wpL_enter rfl hx (Calls.mono (hf cx.E w (hs.imp hΓ)) ?_)
  rintro e w' ⟨Γ', hR, hs'⟩
  cases e with
  | returned v => exact h v Γ' hR _ _ (hr.put d v hd) hs'
  | panicked ch => exact pan_q (hpan ch Γ' hR) hr hs'
  | outgrown => exact (hout Γ' hR).elim
theorem TL.callFV {f : FuncId} {x : Operand} {xs : List Operand} {fs cs vs : List Value} {ts : Array TypeId} {Δ : List HP} {R : Value → List HP → Prop} (hd : Nat.blt d cx.n = true) (ea : ev ρ x = .func (.func f) fs.toArray cs.toArray) (hc : Callable cx.P f) (ha : fs ++ xs.map (ev ρ) ++ cs = vs) (hΓ : ∀ m, all Γ m → all Δ m) (hf : FnV cx.P f vs Δ R)
    (h : ∀ v Γ', R v Γ' → TL cx ops K rest ((d, v) :: ρ) ds Γ') : TL cx ops K (⟨some d, .call ⟨.value x, xs.toArray, ts⟩, ty, pos, after, none⟩ :: rest) ρ ds Γ :=
  .callF hd ea hc ha hΓ hf (fun _ _ ⟨_, h, _⟩ => by cases h) (fun _ ⟨_, h, _⟩ => by cases h) (fun v Γ' ⟨_, e, hR⟩ => by injection e with e; subst e; exact h v Γ' hR)
/-- The text's own panic. -/
theorem TL.panic {x : Operand} {t : TypeId} {v : Value} {D : Option Nat} (hmd : cx.md = none) (ea : ev ρ x = .iface t v) (h : Pan cx ρ ds [{ v := .iface t v, recovered := false }] Γ) : TL cx ops K (⟨D, .panic x, ty, pos, after, none⟩ :: rest) ρ ds Γ := by
  intro a w hr hs
  unfold wpL
  simp only [hmd]
  unfold wpList
  rw [if_pos (show Region.wanted _ (yielded ops a.tmps) = true from rfl)]
  left
  unfold Oper.wp
  have hx : (execOp a.eval ⟨D, .panic x, ty, pos, after, none⟩).run cx.P w = .halt (.panic (.iface t v)) w := by
    rw [hr.ev]
    simp only [execOp, ea, Sem.run_bind]
    rfl
  rw [hx]
  exact pan_q (K := K) h hr hs
/-- A call is deferred. -/
theorem TL.defer {f : FuncId} {x : Operand} {xs : List Operand} {fs cs vs : List Value} {ts : Array TypeId} (hmd : cx.md = some .none) (ea : ev ρ x = .func (.func f) fs.toArray cs.toArray) (ha : fs ++ xs.map (ev ρ) = vs) (h : TL cx ops K rest ρ (⟨.fn (.func f) cs.toArray, vs.toArray⟩ :: ds) Γ) :
    TL cx ops K (⟨.none, .defer ⟨.value x, xs.toArray, ts⟩, ty, pos, after, .none⟩ :: rest) ρ ds Γ := by
  intro a w hr hs
  unfold TL wpL at h
  unfold wpL
  simp only [hmd] at h ⊢
  unfold wpListIn
  rw [if_pos (show Region.wanted _ (yielded ops a.tmps) = true from rfl)]
  have hx : (execOp a.eval ⟨.none, .defer ⟨.value x, xs.toArray, ts⟩, ty, pos, after, .none⟩).run cx.P w = .ok (.defer ⟨.fn (.func f) cs.toArray, vs.toArray⟩) w := by
    rw [hr.ev, ← ha]
    simp [execOp, resolve, ea, Deferred.ofValue]
  have hrd : cx.F.round = .none := by
    show cx.rd = .none
    unfold Cx.rd
    rw [hmd]
  refine ⟨fun _ _ => trivial, ?_⟩
  rw [hrd]
  rw [Oper.semAt_none, hx]
  exact h _ w ⟨hr.size, hr.get, by rw [← hr.defers]; rfl⟩ hs
/-- The function returns, with deferred calls. -/
theorem TK.retD (hrd : cx.rd = none) (h : ∀ a w, Rp cx.n ρ ds a → Sat cx.E Γ w → Leaves cx.P cx.fn a.tmps cx.post ds .returning w) : TK cx (.code .ret :: k) ρ ds Γ := by
  intro a w hr hs cs
  have hl := h a w hr hs
  obtain ⟨e1, w1, fr, hR, hc, hf, hlv⟩ := leaves_steps ds .returning w { cx.b.atR a (.code .ret :: k) with mode := .returning } cs rfl hr.defers rfl cx.hfn rfl hl
  refine ⟨e1, w1, hR, ?_⟩
  unfold Out
  rw [hrd]
  exact ⟨fr, Comes.of_steps (Steps.one (stepR_ret hrd)) hc, hf, hlv⟩
end
/-- THE CONTRACT of a deferred call. -/
def FnD (P : Program) (f : FuncId) (args : List Value) (u : FrameMode) (Γ : List HP) (R : Ending → FrameMode → List HP → Prop) : Prop :=
  ∀ E w, Sat E Γ w → CallsD P f args.toArray u w fun e u' w' => ∃ Γ', R e u' Γ' ∧ Sat E Γ' w'
end Go.Proofs.Ytndmjpceocecdaa.E

/- MY OWN LAYER: structs built as values; two operations of a region that may come up, one as well as the other. P is a variable. -/
namespace Go.Proofs.Ytndmjpceocecdaa.E
open Go Go.RowKit Go.Proofs
section
variable {P : Program} {ρ : Env} {d : Nat} {ty : TypeId} {pos : String} {after : Array Edge} {Sw : World → Prop} {tab : List TR}
theorem PV.build {t : TypeId} {ps : List (Nat × Operand)} {r : TR} {fs : List Field} {pls : List (Nat × Nat)} {qs : List (Nat × Nat × List Value)} {l : List Value} (hT : TabsOk P tab) (ht : tab[t]? = some r) (hq : r.und = .struct fs.toArray) (hp : placesOf tab fs = some pls)
    (hqs : partsOf (fun i => pls[i]?) ρ ps = some qs) (hf : fitL r.zero.cells.size qs = true) (hl : fillL r.zero.cells.toList (qs.map fun q => (q.1, q.2.2)) = l) : PV P ρ Sw ⟨some d, .build t ps.toArray, ty, pos, after, none⟩ (.agg l.toArray) := fun w _ => by
  have hr := hT _ _ ht
  have h1 := run_places hT w fs pls hp
  have h2 := fill_eq (fun i => pls.toArray[i]?) _ (ps.map fun p => (p.1, ev ρ p.2)) qs r.zero.cells rfl (by simpa using parts_map ps qs hqs) hf
  simp only [execOp, Instr.build, Sem.run_bind, hr.run_zero, Result.andThen_ok, hr.run_und, hq, Array.mapM_eq_mapM_toList, Sem.run_map, h1, List.map_toArray]
  simp only [h2, hl]
  rfl
end
section
variable {cx : Cx} {ops : Array Oper} {Γ₀ : List HP} {fuel : Nat} {listed : Array Bool} {k : List Item} {ρ : Env} {ds : List Deferred} {Γ : List HP}
/-- Two operations may come up, one as well as the other: behind both the walk goes on once. -/
theorem TA.twoJ (i j : Nat) (J : Env → List HP → Prop) {o o' : Oper} (hr : Region.ready .any ops listed = [i, j]) (hi : ops[i]? = some o) (hj : ops[j]? = some o') (hij : (i == j) = false)
    (hA : (∀ ρ' Γ', J ρ' Γ' → TA cx ops Γ₀ fuel ((listed.setIfInBounds i true).setIfInBounds j true) k ρ' ds Γ') → TL cx ops (KA cx ops Γ₀ (fuel + 1) (listed.setIfInBounds i true) k) [o] ρ ds Γ)
    (hB : (∀ ρ' Γ', J ρ' Γ' → TA cx ops Γ₀ fuel ((listed.setIfInBounds j true).setIfInBounds i true) k ρ' ds Γ') → TL cx ops (KA cx ops Γ₀ (fuel + 1) (listed.setIfInBounds j true) k) [o'] ρ ds Γ)
    (tail : ∀ ρ' Γ', J ρ' Γ' → TA cx ops Γ₀ fuel ((listed.setIfInBounds i true).setIfInBounds j true) k ρ' ds Γ') : TA cx ops Γ₀ (fuel + 2) listed k ρ ds Γ := by
  refine TA.two i j hr hi hj (hA tail) (hB fun ρ' Γ' h => ?_)
  have hne : i ≠ j := by simpa using hij
  have hc : (listed.setIfInBounds j true).setIfInBounds i true = (listed.setIfInBounds i true).setIfInBounds j true := by
    apply Array.ext'
    simp only [Array.toList_setIfInBounds]
    exact (List.set_comm true true (Ne.symm hne)).symm ▸ rfl
  rw [hc]
  exact tail ρ' Γ' h
end
section
variable {cx : Cx} {ops : Array Oper} {K : Act → World → Prop} {rest : List Oper} {ρ : Env} {ds : List Deferred} {Γ : List HP} {ty : TypeId} {pos : String} {after : Array Edge}
/-- Part of a slice of one's own is cleared. -/
theorem TL.clearOwn {t e : TypeId} {x : Operand} {b o m n c c' : Nat} {cs : List Value} {r r' : TR} (i : Nat) (hi : Γ[i]? = some (own e 1 (.slice (some ⟨b, 0, none⟩) n c) n cs)) (ea : ev ρ x = .slice (some ⟨b, o, none⟩) m c') (ht : TabOk cx.P t r) (hq : r.und = .slice e) (ht' : TabOk cx.P e r')
    (hz : r'.zero.cells = #[r'.zero]) (h1 : r'.zero.oneCell' = true) (hm : 0 < m) (hom : o + m ≤ n)
    (h : TL cx ops K rest ρ ds (Γ.set i (own e 1 (.slice (some ⟨b, 0, none⟩) n c) n (cs.take o ++ List.replicate m r'.zero ++ cs.drop (o + m))))) : TL cx ops K (⟨none, .call ⟨.builtin .clear, #[x], #[t]⟩, ty, pos, after, none⟩ :: rest) ρ ds Γ := by
  intro a w hr hs
  obtain ⟨cur, ⟨hcl, hcn, hcc, hct⟩, hs1⟩ := hs.at hi (X := List Value) (φ := fun cur => cs.length = n ∧ n ≤ cur.length ∧ (cur.length = c ∧ c ≤ maxLen) ∧ cur.take n = cs) (K := fun cur => row b cur e) (fun mm hmm => by
    obtain ⟨h1, ⟨hv, _⟩ | ⟨g, cap, cur, hv, hn, hcap, hl, htk, hrow⟩⟩ := hmm
    · cases hv
    · injection hv with hv1 _ hv2
      injection hv1 with hv1
      injection hv1 with hv1 _
      subst hv1; subst hv2
      rw [Nat.mul_one] at h1 hl htk
      exact ⟨cur, ⟨h1, by omega, ⟨hl, hcap⟩, htk⟩, hrow⟩)
  have hlt := (List.getElem?_eq_some_iff.1 hi).1
  have hi2 : (Γ.set i (row b cur e))[i]? = some (row b cur e) := by simp [hlt]
  have hb := hs1.block hi2
  have hst := run_storeCells_at cx.P b o e (List.replicate m r'.zero) 0 cur.toArray w hb (by simp; omega) (by intro v hv; rw [List.eq_of_mem_replicate hv]; exact h1)
  have hzc : (Builtin.zeroCells r'.zero.cells m).toList = List.replicate m r'.zero := by
    rw [hz]
    simp [Builtin.zeroCells]
    apply List.ext_getElem
    · simp
    · intro i h1 h2
      simp [Nat.mod_one]
  simp only [Nat.add_zero, List.length_replicate] at hst
  obtain ⟨m', rfl⟩ : ∃ k, m = k + 1 := ⟨m - 1, by omega⟩
  have hx : (execOp a.eval ⟨none, .call ⟨.builtin .clear, #[x], #[t]⟩, ty, pos, after, none⟩).run cx.P w = .ok (.value (.tuple #[])) (w.setRow b (cur.take o ++ List.replicate (m' + 1) r'.zero ++ cur.drop (o + (m' + 1))).toArray) := by
    rw [hr.ev]
    simp [execOp, resolve, invoke, builtin, ea, Builtin.clear_, ht.run_und, hq, ht'.run_zero, hzc, hst]
  refine wpL_value rfl hx (h _ _ (hr.none _) ?_)
  have hp := hs1.put (w' := w.setRow b (cur.take o ++ List.replicate (m' + 1) r'.zero ++ cur.drop (o + (m' + 1))).toArray) hi2 rfl rfl rfl (setRow_heap w b _ _ e _ hb) fun k hk q hq => (setRow_other w b _ k hk).trans hq
  rw [List.set_set] at hp
  refine hp.imp fun mm hmm => ?_
  refine all_perm (perm_set _ hi).symm ?_
  refine sep_mono (all_perm (perm_set _ hi) hmm) (fun q hq => ?_) (fun _ => id)
  have hl2 : (cur.take o ++ List.replicate (m' + 1) r'.zero ++ cur.drop (o + (m' + 1))).length = c := by simp; omega
  refine ⟨by simp; omega, .inr ⟨b, c, cur.take o ++ List.replicate (m' + 1) r'.zero ++ cur.drop (o + (m' + 1)), rfl, by omega, hcc.2, by rw [Nat.mul_one]; exact hl2, ?_, hq⟩⟩
  have hAB : (cur.take o ++ List.replicate (m' + 1) r'.zero).length = o + (m' + 1) := by simp; omega
  rw [Nat.mul_one, ← hct, List.take_append, hAB, List.take_of_length_le (by omega), List.take_take, Nat.min_eq_left (by omega), List.drop_take]
end
end Go.Proofs.Ytndmjpceocecdaa.E

/- MY OWN LAYER: regions that draw, in two phases: up to operation j0 (a store) worlds bear Γ₁, behind it Γ₂: so a load that j0 waits for may be taken first. P is a variable. -/
namespace Go.Proofs.Ytndmjpceocecdaa.E
open Go Go.RowKit
/-- Up to j0 every world met is of S₁, behind it of S₂. -/
def wpAnyG (P : Program) (ops : Array Oper) (Q : Exit → Act → World → Prop) (j0 : Nat) (S₁ S₂ : World → Prop) : Nat → Array Bool → Act → World → Prop
  | 0, listed, a, w => Region.ready .any ops listed = [] ∧ Q .normal a w
  | fuel + 1, listed, a, w => (Region.ready .any ops listed = [] → Q .normal a w) ∧
    ∀ i ∈ Region.ready .any ops listed, wpOp P ops Q i (fun a' w' => (i = j0 → S₂ w' ∧ wpAnyH P .any ops Q S₂ fuel (listed.setIfInBounds i true) a' w') ∧ (i ≠ j0 → S₁ w' ∧ wpAnyG P ops Q j0 S₁ S₂ fuel (listed.setIfInBounds i true) a' w')) a w
section
variable {P : Program} {ops : Array Oper} {Q : Exit → Act → World → Prop} {j0 : Nat} {S₁ S₂ : World → Prop}
theorem wpAny_of_G : ∀ (fuel : Nat) (listed : Array Bool) (a : Act) (w : World), wpAnyG P ops Q j0 S₁ S₂ fuel listed a w → wpAny P .any ops Q fuel listed a w
  | 0, _, _, _, h => h
  | fuel + 1, _, _, _, h => ⟨h.1, fun i hi => wpOp_mono (fun a' w' h' => by
      by_cases hij : i = j0
      · exact wpAny_of_held fuel _ a' w' (h'.1 hij).2
      · exact wpAny_of_G fuel _ a' w' (h'.2 hij).2) (h.2 i hi)⟩
theorem wpAnyG_first {i : Nat} {oi : Oper} {v : Value} (hi : ops[i]? = some oi) (hsel : ∀ (j : Nat) (o : Oper) cs b, ops[j]? = some o → o.op ≠ .select cs b) (hij0 : i ≠ j0)
    (hQ : ∀ c a w, Q (.panic c) (a.put oi.dst v) w → Q (.panic c) a w) :
    ∀ (fuel : Nat) (listed : Array Bool) (a : Act) (w : World),
      (∀ j oj, ops[j]? = some oj → j ≠ i → listed.getD j true = false → (∀ e ∈ oj.after, Region.binds .any e = true → e.on ≠ i) → oi.apart ops oj = true) →
      i ∈ Region.ready .any ops listed → YieldsIf P ops S₁ oi v a → ((∃ o, ops[j0]? = some o ∧ ∃ e ∈ o.after, Region.binds .any e = true ∧ e.on = i) ∨ YieldsIf P ops S₂ oi v a) → S₁ w →
      wpAnyG P ops Q j0 S₁ S₂ fuel (listed.setIfInBounds i true) (a.put oi.dst v) w → wpAnyG P ops Q j0 S₁ S₂ (fuel + 1) listed a w := by
  intro fuel
  induction fuel with
  | zero =>
    intro listed a w _ hr hy _ hS H
    refine ⟨fun h => (by rw [h] at hr; cases hr), fun j hj => ?_⟩
    by_cases hji : j = i
    · subst hji; exact hy.wpOp hi hS ⟨fun h => absurd h hij0, fun _ => ⟨hS, H⟩⟩
    · have := ready_mono hj hji
      rw [H.1] at this
      cases this
  | succ fuel ih =>
    intro listed a w hfree hr hy hy2 hS H
    refine ⟨fun h => (by rw [h] at hr; cases hr), fun j hj => ?_⟩
    by_cases hji : j = i
    · subst hji; exact hy.wpOp hi hS ⟨fun h => absurd h hij0, fun _ => ⟨hS, H⟩⟩
    · have h1 := H.2 j (ready_mono hj hji)
      obtain ⟨hjun, oj, hoj, hall⟩ := mem_ready.1 hj
      have hnot : ∀ e ∈ oj.after, Region.binds .any e = true → e.on ≠ i := fun e he hb heq => by
        have h1 := hall e he hb
        have h0 := (mem_ready.1 hr).1
        rw [heq] at h1
        rcases Nat.lt_or_ge i listed.size with h' | h'
        · simp [h'] at h0 h1; rw [h0] at h1; cases h1
        · simp [Array.getElem?_eq_none h'] at h1
      have hfree' : ∀ k ok, ops[k]? = some ok → k ≠ i → (listed.setIfInBounds j true).getD k true = false →
          (∀ e ∈ ok.after, Region.binds .any e = true → e.on ≠ i) → oi.apart ops ok = true := fun k ok hk hki hun hno => by
        refine hfree k ok hk hki ?_ hno
        by_cases hjk : j = k
        · subst hjk; exact hjun
        · rw [getD_set_ne true hjk] at hun; exact hun
      by_cases hjj : j = j0
      · have hyS : YieldsIf P ops S₂ oi v a := by
          rcases hy2 with ⟨o, ho, e, he, hb, hei⟩ | hy2
          · rw [← hjj, hoj] at ho
            injection ho with ho
            subst ho
            exact absurd hei (hnot e he hb)
          · exact hy2
        have h2 := wpOp_putIf hoj (hfree j oj hoj hji hjun hnot) (fun cs b => hsel i oi cs b hi) (fun cs b => hsel j oj cs b hoj) hQ hyS h1
        refine wpOp_mono (fun a' w' h3 => ⟨fun _ => ?_, fun h => absurd hjj h⟩) h2
        obtain ⟨h4, h5⟩ := h3.2.1 hjj
        refine ⟨h4, wpAnyH_first hi hsel hQ fuel (listed.setIfInBounds j true) a' w' hfree' (ready_mono hr (Ne.symm hji)) h3.1 h4 ?_⟩
        rw [Array.setIfInBounds_comm _ _ hji]
        exact h5
      · have both : ∀ {a : Act}, (YieldsIf P ops S₁ oi v a ∧ ((∃ o, ops[j0]? = some o ∧ ∃ e ∈ o.after, Region.binds .any e = true ∧ e.on = i) ∨ YieldsIf P ops S₂ oi v a)) ↔ YieldsIf P ops (fun w => S₁ w ∨ ((¬ ∃ o, ops[j0]? = some o ∧ ∃ e ∈ o.after, Region.binds .any e = true ∧ e.on = i) ∧ S₂ w)) oi v a := by
          intro a
          constructor
          · rintro ⟨y1, y2⟩
            rcases y1 with ⟨hw, y1⟩ | h
            · refine .inl ⟨hw, fun w hw' => ?_⟩
              rcases hw' with h | ⟨hn, h⟩
              · exact y1 w h
              · rcases y2 with y2 | ⟨_, y2⟩ | ⟨y2, _⟩
                · exact absurd y2 hn
                · exact y2 w h
                · rw [hw] at y2; cases y2
            · exact .inr h
          · rintro (⟨hw, y⟩ | h)
            · refine ⟨.inl ⟨hw, fun w h => y w (.inl h)⟩, ?_⟩
              by_cases hn : ∃ o, ops[j0]? = some o ∧ ∃ e ∈ o.after, Region.binds .any e = true ∧ e.on = i
              · exact .inl hn
              · exact .inr (.inl ⟨hw, fun w h => y w (.inr ⟨hn, h⟩)⟩)
            · exact ⟨.inr h, .inr (.inr h)⟩
        have h2 := wpOp_putIf hoj (hfree j oj hoj hji hjun hnot) (fun cs b => hsel i oi cs b hi) (fun cs b => hsel j oj cs b hoj) hQ (both.1 ⟨hy, hy2⟩) h1
        refine wpOp_mono (fun a' w' h3 => ⟨fun h => absurd h hjj, fun _ => ?_⟩) h2
        obtain ⟨y1, y2⟩ := both.2 h3.1
        obtain ⟨h4, h5⟩ := h3.2.2 hjj
        refine ⟨h4, ih (listed.setIfInBounds j true) a' w' hfree' (ready_mono hr (Ne.symm hji)) y1 y2 h4 ?_⟩
        rw [Array.setIfInBounds_comm _ _ hji]
        exact h5
end
/-- THE JUDGEMENT in two phases. -/
def TB (cx : Cx) (ops : Array Oper) (j0 : Nat) (Γ₁ Γ₂ : List HP) (fuel : Nat) (listed : Array Bool) (k : List Item) (ρ : Env) (ds : List Deferred) (Γ : List HP) : Prop :=
  ∀ a w, cx.md = none → Rp cx.n ρ ds a → Sat cx.E Γ w → wpAnyG cx.P ops (Qk cx (WP cx k)) j0 (Sat cx.E Γ₁) (Sat cx.E Γ₂) fuel listed a w
def KB (cx : Cx) (ops : Array Oper) (j0 : Nat) (Γ₁ Γ₂ : List HP) (fuel : Nat) (listed : Array Bool) (k : List Item) : Act → World → Prop :=
  fun a w => Sat cx.E Γ₁ w ∧ (cx.md = none → wpAnyG cx.P ops (Qk cx (WP cx k)) j0 (Sat cx.E Γ₁) (Sat cx.E Γ₂) fuel listed a w)
/-- j0 waits for i. -/
def waitB (ops : Array Oper) (j0 i : Nat) : Bool := match ops[j0]? with | none => false | some o => o.after.toList.any fun e => Region.binds .any e && Nat.beq e.on i
section
variable {cx : Cx} {ops : Array Oper} {j0 : Nat} {Γ₁ Γ₂ : List HP} {fuel : Nat} {listed : Array Bool} {k : List Item} {ρ : Env} {ds : List Deferred} {Γ : List HP}
theorem waitB_spec {i : Nat} (h : waitB ops j0 i = true) : ∃ o, ops[j0]? = some o ∧ ∃ e ∈ o.after, Region.binds .any e = true ∧ e.on = i := by
  unfold waitB at h
  cases ho : ops[j0]? with
  | none => rw [ho] at h; cases h
  | some o =>
    rw [ho] at h
    obtain ⟨e, he, h2⟩ := List.any_eq_true.1 h
    simp only [Bool.and_eq_true, Nat.beq_eq] at h2
    exact ⟨o, rfl, e, by simpa using he, h2⟩
theorem TK.drawB {id : Nat} {l : List Oper} (hm : cx.P.follows .mixedOrders = true) (hmd : cx.md = none) (j0 : Nat) (Γ₁ Γ₂ : List HP) (h : TB cx l.toArray j0 Γ₁ Γ₂ l.length (Array.replicate l.length false) k ρ ds Γ) : TK cx (.code (.region id l.toArray true) :: k) ρ ds Γ :=
  fun a w hr hs => WP.code (Cx.rd_of hmd) (wp_region_any hm (wpAny_of_G _ _ _ _ (by simpa using h a { w with drawn := w.drawn + 1 } hmd hr hs.drew)))
def takeG (ops : Array Oper) (listed : Array Bool) (j0 i : Nat) : Bool := takeB ops listed i && !(Nat.beq i j0)
theorem TB.core {i : Nat} {o : Oper} {v : Value} {ρ' : Env} (hi : ops[i]? = some o) (hb : takeG ops listed j0 i = true) (hS : Ent Γ Γ₁)
    (hy : ∀ a, Rp cx.n ρ ds a → YieldsIf cx.P ops (Sat cx.E Γ₁) o v a ∧ (waitB ops j0 i = true ∨ YieldsIf cx.P ops (Sat cx.E Γ₂) o v a)) (hp : ∀ a, Rp cx.n ρ ds a → Rp cx.n ρ' ds (a.put o.dst v))
    (h : TB cx ops j0 Γ₁ Γ₂ fuel (listed.setIfInBounds i true) k ρ' ds Γ) : TB cx ops j0 Γ₁ Γ₂ (fuel + 1) listed k ρ ds Γ := by
  simp only [takeG, takeB, Bool.and_eq_true, Bool.not_eq_true'] at hb
  obtain ⟨⟨⟨hb1, hb2⟩, hb3⟩, hb4⟩ := hb
  intro a w hmd hrp hsat
  obtain ⟨y1, y2⟩ := hy a hrp
  exact wpAnyG_first hi (Region.noSelect_spec hb1) (fun e => by rw [e] at hb4; simp at hb4) (fun _ _ _ hq => Qk.put hmd hq) fuel listed a w (Region.free_spec hi hb2) (by simpa using hb3) y1 (y2.imp waitB_spec id) (hsat.weaken hS) (h _ _ hmd (hp a hrp) hsat)
theorem TB.takeA {i : Nat} (_ : At i) {d : Nat} {op : Op} {ty : TypeId} {pos : String} {after : Array Edge} {v : Value} (hi : ops[i]? = some ⟨some d, op, ty, pos, after, none⟩) (hd : Nat.blt d cx.n = true) (hb : takeG ops listed j0 i = true) (hw : waitB ops j0 i = true) (hS : Ent Γ Γ₁)
    (hv : PV cx.P ρ (Sat cx.E Γ₁) ⟨some d, op, ty, pos, after, none⟩ v) (h : TB cx ops j0 Γ₁ Γ₂ fuel (listed.setIfInBounds i true) k ((d, v) :: ρ) ds Γ) : TB cx ops j0 Γ₁ Γ₂ (fuel + 1) listed k ρ ds Γ :=
  .core hi hb hS (fun a hrp => ⟨.inl ⟨rfl, fun w hw => by rw [hrp.ev]; exact hv w hw⟩, .inl hw⟩) (fun a hrp => hrp.put d v hd) h
theorem TB.takeP {i : Nat} (_ : At i) {d : Nat} {op : Op} {ty : TypeId} {pos : String} {after : Array Edge} {v : Value} (hi : ops[i]? = some ⟨some d, op, ty, pos, after, none⟩) (hd : Nat.blt d cx.n = true) (hb : takeG ops listed j0 i = true) (hS : Ent Γ Γ₁)
    (hv : PV cx.P ρ (fun _ => True) ⟨some d, op, ty, pos, after, none⟩ v) (h : TB cx ops j0 Γ₁ Γ₂ fuel (listed.setIfInBounds i true) k ((d, v) :: ρ) ds Γ) : TB cx ops j0 Γ₁ Γ₂ (fuel + 1) listed k ρ ds Γ :=
  .core hi hb hS (fun a hrp => ⟨.inl ⟨rfl, fun w _ => by rw [hrp.ev]; exact hv w trivial⟩, .inr (.inl ⟨rfl, fun w _ => by rw [hrp.ev]; exact hv w trivial⟩)⟩) (fun a hrp => hrp.put d v hd) h
theorem TB.know {t : Nat} {v : Value} (e : lk ρ t = v) (h : TB cx ops j0 Γ₁ Γ₂ fuel listed k ((t, v) :: ρ) ds Γ) : TB cx ops j0 Γ₁ Γ₂ fuel listed k ρ ds Γ := fun a w hmd hr hs => h a w hmd (hr.know e) hs
theorem TB.isT (t : Nat) {c : Bool} (e : lk ρ t = .bool c) (hc : c = true) (h : TB cx ops j0 Γ₁ Γ₂ fuel listed k ((t, .bool true) :: ρ) ds Γ) : TB cx ops j0 Γ₁ Γ₂ fuel listed k ρ ds Γ := .know (hc ▸ e) h
theorem TB.isF (t : Nat) {c : Bool} (e : lk ρ t = .bool c) (hc : c = false) (h : TB cx ops j0 Γ₁ Γ₂ fuel listed k ((t, .bool false) :: ρ) ds Γ) : TB cx ops j0 Γ₁ Γ₂ fuel listed k ρ ds Γ := .know (hc ▸ e) h
theorem TB.mem (h : ∀ m, all Γ m → TB cx ops j0 Γ₁ Γ₂ fuel listed k ρ ds Γ) : TB cx ops j0 Γ₁ Γ₂ fuel listed k ρ ds Γ := by
  intro a w hmd hr hs
  obtain ⟨m, hm, _⟩ := hs.mem
  exact h m hm a w hmd hr hs
theorem wpG_ready {i : Nat} {o : Oper} (hij : i ≠ j0) (hi : ops[i]? = some o) (hmd : cx.md = none) {a : Act} {w : World} (h : wpL cx ops (Qk cx (KB cx ops j0 Γ₁ Γ₂ fuel (listed.setIfInBounds i true) k)) [o] a w) :
    wpOp cx.P ops (Qk cx (WP cx k)) i (fun a' w' => (i = j0 → Sat cx.E Γ₂ w' ∧ wpAnyH cx.P .any ops (Qk cx (WP cx k)) (Sat cx.E Γ₂) fuel (listed.setIfInBounds i true) a' w') ∧ (i ≠ j0 → Sat cx.E Γ₁ w' ∧ wpAnyG cx.P ops (Qk cx (WP cx k)) j0 (Sat cx.E Γ₁) (Sat cx.E Γ₂) fuel (listed.setIfInBounds i true) a' w')) a w :=
  wpOp_of_one hi (fun _ _ hK => ⟨fun h => absurd h hij, fun _ => ⟨hK.1, hK.2 hmd⟩⟩) (wpL_plain hmd h)
/-- One operation alone may come up; it is not j0. -/
theorem TB.one (i : Nat) {o : Oper} (hr : Region.ready .any ops listed = [i]) (hij : Nat.beq i j0 = false) (hi : ops[i]? = some o)
    (h : TL cx ops (KB cx ops j0 Γ₁ Γ₂ fuel (listed.setIfInBounds i true) k) [o] ρ ds Γ) : TB cx ops j0 Γ₁ Γ₂ (fuel + 1) listed k ρ ds Γ := by
  intro a w hmd hrp hsat
  refine ⟨fun h0 => (by rw [hr] at h0; cases h0), fun j hj => ?_⟩
  rw [hr] at hj
  obtain rfl : j = i := by simpa using hj
  exact wpG_ready (fun e => by rw [e] at hij; simp at hij) hi hmd (h a w hrp hsat)
/-- Two may come up, one as well as the other: behind both the walk goes on once. -/
theorem TB.twoJ (i j : Nat) (J : Env → List HP → Prop) {o o' : Oper} (hr : Region.ready .any ops listed = [i, j]) (hi : ops[i]? = some o) (hj : ops[j]? = some o') (hij : (i == j) = false) (hi0 : Nat.beq i j0 = false) (hj0 : Nat.beq j j0 = false)
    (hA : (∀ ρ' Γ', J ρ' Γ' → TB cx ops j0 Γ₁ Γ₂ fuel ((listed.setIfInBounds i true).setIfInBounds j true) k ρ' ds Γ') → TL cx ops (KB cx ops j0 Γ₁ Γ₂ (fuel + 1) (listed.setIfInBounds i true) k) [o] ρ ds Γ)
    (hB : (∀ ρ' Γ', J ρ' Γ' → TB cx ops j0 Γ₁ Γ₂ fuel ((listed.setIfInBounds j true).setIfInBounds i true) k ρ' ds Γ') → TL cx ops (KB cx ops j0 Γ₁ Γ₂ (fuel + 1) (listed.setIfInBounds j true) k) [o'] ρ ds Γ)
    (tail : ∀ ρ' Γ', J ρ' Γ' → TB cx ops j0 Γ₁ Γ₂ fuel ((listed.setIfInBounds i true).setIfInBounds j true) k ρ' ds Γ') : TB cx ops j0 Γ₁ Γ₂ (fuel + 2) listed k ρ ds Γ := by
  have hne : i ≠ j := by simpa using hij
  have hc : (listed.setIfInBounds j true).setIfInBounds i true = (listed.setIfInBounds i true).setIfInBounds j true := by
    apply Array.ext'
    simp only [Array.toList_setIfInBounds]
    exact (List.set_comm true true (Ne.symm hne)).symm ▸ rfl
  have hA' := hA tail
  have hB' := hB fun ρ' Γ' h => by rw [hc]; exact tail ρ' Γ' h
  intro a w hmd hrp hsat
  refine ⟨fun h0 => (by rw [hr] at h0; cases h0), fun l hl => ?_⟩
  rw [hr] at hl
  simp only [List.mem_cons, List.not_mem_nil, or_false] at hl
  rcases hl with rfl | rfl
  · exact wpG_ready (fun e => by rw [e] at hi0; simp at hi0) hi hmd (hA' a w hrp hsat)
  · exact wpG_ready (fun e => by rw [e] at hj0; simp at hj0) hj hmd (hB' a w hrp hsat)
/-- Two may come up: two walks. -/
theorem TB.two (i j : Nat) {o o' : Oper} (hr : Region.ready .any ops listed = [i, j]) (hi : ops[i]? = some o) (hj : ops[j]? = some o') (hi0 : Nat.beq i j0 = false) (hj0 : Nat.beq j j0 = false)
    (hA : TL cx ops (KB cx ops j0 Γ₁ Γ₂ fuel (listed.setIfInBounds i true) k) [o] ρ ds Γ)
    (hB : TL cx ops (KB cx ops j0 Γ₁ Γ₂ fuel (listed.setIfInBounds j true) k) [o'] ρ ds Γ) : TB cx ops j0 Γ₁ Γ₂ (fuel + 1) listed k ρ ds Γ := by
  intro a w hmd hrp hsat
  refine ⟨fun h0 => (by rw [hr] at h0; cases h0), fun l hl => ?_⟩
  rw [hr] at hl
  simp only [List.mem_cons, List.not_mem_nil, or_false] at hl
  rcases hl with rfl | rfl
  · exact wpG_ready (fun e => by rw [e] at hi0; simp at hi0) hi hmd (hA a w hrp hsat)
  · exact wpG_ready (fun e => by rw [e] at hj0; simp at hj0) hj hmd (hB a w hrp hsat)
/-- j0 comes up: behind it the second phase. -/
theorem TB.last {o : Oper} (hr : Region.ready .any ops listed = [j0]) (hi : ops[j0]? = some o)
    (h : TL cx ops (KA cx ops Γ₂ fuel (listed.setIfInBounds j0 true) k) [o] ρ ds Γ) : TB cx ops j0 Γ₁ Γ₂ (fuel + 1) listed k ρ ds Γ := by
  intro a w hmd hrp hsat
  refine ⟨fun h0 => (by rw [hr] at h0; cases h0), fun j hj => ?_⟩
  rw [hr] at hj
  obtain rfl : j = j0 := by simpa using hj
  exact wpOp_of_one hi (fun _ _ hK => ⟨fun _ => ⟨hK.1, hK.2 hmd⟩, fun h => absurd rfl h⟩) (wpL_plain hmd (h a w hrp hsat))
theorem TL.backB (hS : Ent Γ Γ₁) (h : TB cx ops j0 Γ₁ Γ₂ fuel listed k ρ ds Γ) : TL cx ops (KB cx ops j0 Γ₁ Γ₂ fuel listed k) [] ρ ds Γ :=
  fun a w hr hs => wpL_nil ⟨hs.weaken hS, fun hmd => h a w hmd hr hs⟩
theorem TB.perm {Δ : List HP} (hp : Γ.Perm Δ) (h : TB cx ops j0 Γ₁ Γ₂ fuel listed k ρ ds Δ) : TB cx ops j0 Γ₁ Γ₂ fuel listed k ρ ds Γ := fun a w hmd hr hs => h a w hmd hr (hs.imp fun _ hm => all_perm hp hm)
theorem TB.sub {Δ : List HP} (hs : Δ.Sublist Γ) (h : TB cx ops j0 Γ₁ Γ₂ fuel listed k ρ ds Δ) : TB cx ops j0 Γ₁ Γ₂ fuel listed k ρ ds Γ := fun a w hmd hr hS => h a w hmd hr (hS.weaken fun _ hm => all_sub hs hm)
theorem TA.sub {Γ₀ Δ : List HP} (hs : Δ.Sublist Γ) (h : TA cx ops Γ₀ fuel listed k ρ ds Δ) : TA cx ops Γ₀ fuel listed k ρ ds Γ := fun a w hmd hr hS => h a w hmd hr (hS.weaken fun _ hm => all_sub hs hm)
theorem TA.perm {Γ₀ Δ : List HP} (hp : Γ.Perm Δ) (h : TA cx ops Γ₀ fuel listed k ρ ds Δ) : TA cx ops Γ₀ fuel listed k ρ ds Γ := fun a w hmd hr hs => h a w hmd hr (hs.imp fun _ hm => all_perm hp hm)
theorem TB.eqL {listed' : Array Bool} (e : listed' = listed) (h : TB cx ops j0 Γ₁ Γ₂ fuel listed k ρ ds Γ) : TB cx ops j0 Γ₁ Γ₂ fuel listed' k ρ ds Γ := e ▸ h
theorem TA.eqL {Γ₀ : List HP} {listed' : Array Bool} (e : listed' = listed) (h : TA cx ops Γ₀ fuel listed k ρ ds Γ) : TA cx ops Γ₀ fuel listed' k ρ ds Γ := e ▸ h
def setL (listed : Array Bool) (L : List Nat) : Array Bool := L.foldl (fun a i => a.setIfInBounds i true) listed
/-- Some operations, in whatever order they come up; behind them the walk goes on once. -/
theorem TB.cutJ (L : List Nat) (J : Env → List HP → Prop) {n : Nat} (hn : fuel = n + L.length) (h1 : (∀ ρ' Γ', J ρ' Γ' → TB cx ops j0 Γ₁ Γ₂ n (setL listed L) k ρ' ds Γ') → TB cx ops j0 Γ₁ Γ₂ (n + L.length) listed k ρ ds Γ) (h2 : ∀ ρ' Γ', J ρ' Γ' → TB cx ops j0 Γ₁ Γ₂ n (setL listed L) k ρ' ds Γ') : TB cx ops j0 Γ₁ Γ₂ fuel listed k ρ ds Γ := by
  subst hn; exact h1 h2
theorem TA.cutJ {Γ₀ : List HP} (L : List Nat) (J : Env → List HP → Prop) {n : Nat} (hn : fuel = n + L.length) (h1 : (∀ ρ' Γ', J ρ' Γ' → TA cx ops Γ₀ n (setL listed L) k ρ' ds Γ') → TA cx ops Γ₀ (n + L.length) listed k ρ ds Γ) (h2 : ∀ ρ' Γ', J ρ' Γ' → TA cx ops Γ₀ n (setL listed L) k ρ' ds Γ') : TA cx ops Γ₀ fuel listed k ρ ds Γ := by
  subst hn; exact h1 h2
end
end Go.Proofs.Ytndmjpceocecdaa.E

/- MY OWN LAYER: the take of a region in two phases, as a default proof. -/
namespace Go.Proofs.Ytndmjpceocecdaa.E
open Go Go.RowKit
set_option maxRecDepth 100000
theorem m_bake {p q : Prop} {i : Nat} (at_ : At i) (k : q) (h : Hold q → At i → p := by intro h_ at_; (first | (apply TB.takeA at_; exact rfl; exact rfl; kernel_rfl; exact rfl; (focus ((repeat (first | assumption | exact Ent.refl _ | apply Ent.tail)); done)); (first | (apply PV.moveE; (first | exact (rfl : _ = w32 _) | exact (rfl : _ = Value.int _ _) | exact (rfl : _ = Value.slice _ _ _) | exact (rfl : _ = Value.pointer (some ⟨_, _, _⟩)) | exact (rfl : _ = Value.bool _) | exact (rfl : _ = Value.pointer none) | exact (rfl : _ = Value.string _) | exact (rfl : _ = Value.agg _) | exact (rfl : _ = Value.tuple _) | exact (rfl : _ = Value.func _ _ _) | exact (rfl : _ = Value.map _) | exact (rfl : _ = Value.iface _ _) | exact (rfl : _ = Value.nilIface) | exact (rfl : _ = Value.nilFunc) | exact rfl)) | (apply PV.assignE; (first | exact (rfl : _ = w32 _) | exact (rfl : _ = Value.int _ _) | exact (rfl : _ = Value.slice _ _ _) | exact (rfl : _ = Value.pointer (some ⟨_, _, _⟩)) | exact (rfl : _ = Value.bool _) | exact (rfl : _ = Value.pointer none) | exact (rfl : _ = Value.string _) | exact (rfl : _ = Value.agg _) | exact (rfl : _ = Value.tuple _) | exact (rfl : _ = Value.func _ _ _) | exact (rfl : _ = Value.map _) | exact (rfl : _ = Value.iface _ _) | exact (rfl : _ = Value.nilIface) | exact (rfl : _ = Value.nilFunc) | exact rfl)) | (apply PV.lenSlice; exact rfl; exact tb rfl; exact rfl) | (apply PV.addW; exact rfl; exact rfl) | (apply PV.xorW; exact rfl; exact rfl) | (apply PV.andW; exact rfl; exact rfl) | (apply PV.orW; exact rfl; exact rfl) | (apply PV.notW; exact rfl) | (apply PV.shrW; exact rfl; exact rfl; (first | exact (rfl : _ = ((0 : Nat) : Int)) | exact (rfl : _ = ((1 : Nat) : Int)) | exact (rfl : _ = ((2 : Nat) : Int)) | exact (rfl : _ = ((3 : Nat) : Int)) | exact (rfl : _ = ((4 : Nat) : Int)) | exact (rfl : _ = ((5 : Nat) : Int)) | exact (rfl : _ = ((6 : Nat) : Int)) | exact (rfl : _ = ((7 : Nat) : Int)) | exact (rfl : _ = ((8 : Nat) : Int)) | exact (rfl : _ = ((9 : Nat) : Int)) | exact (rfl : _ = ((10 : Nat) : Int)) | exact (rfl : _ = ((11 : Nat) : Int)) | exact (rfl : _ = ((12 : Nat) : Int)) | exact (rfl : _ = ((13 : Nat) : Int)) | exact (rfl : _ = ((14 : Nat) : Int)) | exact (rfl : _ = ((15 : Nat) : Int)) | exact (rfl : _ = ((16 : Nat) : Int)) | exact (rfl : _ = ((17 : Nat) : Int)) | exact (rfl : _ = ((18 : Nat) : Int)) | exact (rfl : _ = ((19 : Nat) : Int)) | exact (rfl : _ = ((20 : Nat) : Int)) | exact (rfl : _ = ((21 : Nat) : Int)) | exact (rfl : _ = ((22 : Nat) : Int)) | exact (rfl : _ = ((23 : Nat) : Int)) | exact (rfl : _ = ((24 : Nat) : Int)) | exact (rfl : _ = ((25 : Nat) : Int)) | exact (rfl : _ = ((26 : Nat) : Int)) | exact (rfl : _ = ((27 : Nat) : Int)) | exact (rfl : _ = ((28 : Nat) : Int)) | exact (rfl : _ = ((29 : Nat) : Int)) | exact (rfl : _ = ((30 : Nat) : Int)) | exact (rfl : _ = ((31 : Nat) : Int)) | exact (rfl : _ = ((32 : Nat) : Int)) | exact (rfl : _ = ((33 : Nat) : Int)) | exact (rfl : _ = ((34 : Nat) : Int)) | exact (rfl : _ = ((35 : Nat) : Int)) | exact (rfl : _ = ((36 : Nat) : Int)) | exact (rfl : _ = ((37 : Nat) : Int)) | exact (rfl : _ = ((38 : Nat) : Int)) | exact (rfl : _ = ((39 : Nat) : Int)) | exact (rfl : _ = ((40 : Nat) : Int)) | exact (rfl : _ = ((41 : Nat) : Int)) | exact (rfl : _ = ((42 : Nat) : Int)) | exact (rfl : _ = ((43 : Nat) : Int)) | exact (rfl : _ = ((44 : Nat) : Int)) | exact (rfl : _ = ((45 : Nat) : Int)) | exact (rfl : _ = ((46 : Nat) : Int)) | exact (rfl : _ = ((47 : Nat) : Int)) | exact (rfl : _ = ((48 : Nat) : Int)) | exact (rfl : _ = ((49 : Nat) : Int)) | exact (rfl : _ = ((50 : Nat) : Int)) | exact (rfl : _ = ((51 : Nat) : Int)) | exact (rfl : _ = ((52 : Nat) : Int)) | exact (rfl : _ = ((53 : Nat) : Int)) | exact (rfl : _ = ((54 : Nat) : Int)) | exact (rfl : _ = ((55 : Nat) : Int)) | exact (rfl : _ = ((56 : Nat) : Int)) | exact (rfl : _ = ((57 : Nat) : Int)) | exact (rfl : _ = ((58 : Nat) : Int)) | exact (rfl : _ = ((59 : Nat) : Int)) | exact (rfl : _ = ((60 : Nat) : Int)) | exact (rfl : _ = ((61 : Nat) : Int)) | exact (rfl : _ = ((62 : Nat) : Int)) | exact (rfl : _ = ((63 : Nat) : Int)) | exact (rfl : _ = ((64 : Nat) : Int)) | exact (rfl : _ = ((128 : Nat) : Int)) | exact (rfl : _ = ((256 : Nat) : Int))); decide) | (apply PV.shlW; exact rfl; exact rfl; (first | exact (rfl : _ = ((0 : Nat) : Int)) | exact (rfl : _ = ((1 : Nat) : Int)) | exact (rfl : _ = ((2 : Nat) : Int)) | exact (rfl : _ = ((3 : Nat) : Int)) | exact (rfl : _ = ((4 : Nat) : Int)) | exact (rfl : _ = ((5 : Nat) : Int)) | exact (rfl : _ = ((6 : Nat) : Int)) | exact (rfl : _ = ((7 : Nat) : Int)) | exact (rfl : _ = ((8 : Nat) : Int)) | exact (rfl : _ = ((9 : Nat) : Int)) | exact (rfl : _ = ((10 : Nat) : Int)) | exact (rfl : _ = ((11 : Nat) : Int)) | exact (rfl : _ = ((12 : Nat) : Int)) | exact (rfl : _ = ((13 : Nat) : Int)) | exact (rfl : _ = ((14 : Nat) : Int)) | exact (rfl : _ = ((15 : Nat) : Int)) | exact (rfl : _ = ((16 : Nat) : Int)) | exact (rfl : _ = ((17 : Nat) : Int)) | exact (rfl : _ = ((18 : Nat) : Int)) | exact (rfl : _ = ((19 : Nat) : Int)) | exact (rfl : _ = ((20 : Nat) : Int)) | exact (rfl : _ = ((21 : Nat) : Int)) | exact (rfl : _ = ((22 : Nat) : Int)) | exact (rfl : _ = ((23 : Nat) : Int)) | exact (rfl : _ = ((24 : Nat) : Int)) | exact (rfl : _ = ((25 : Nat) : Int)) | exact (rfl : _ = ((26 : Nat) : Int)) | exact (rfl : _ = ((27 : Nat) : Int)) | exact (rfl : _ = ((28 : Nat) : Int)) | exact (rfl : _ = ((29 : Nat) : Int)) | exact (rfl : _ = ((30 : Nat) : Int)) | exact (rfl : _ = ((31 : Nat) : Int)) | exact (rfl : _ = ((32 : Nat) : Int)) | exact (rfl : _ = ((33 : Nat) : Int)) | exact (rfl : _ = ((34 : Nat) : Int)) | exact (rfl : _ = ((35 : Nat) : Int)) | exact (rfl : _ = ((36 : Nat) : Int)) | exact (rfl : _ = ((37 : Nat) : Int)) | exact (rfl : _ = ((38 : Nat) : Int)) | exact (rfl : _ = ((39 : Nat) : Int)) | exact (rfl : _ = ((40 : Nat) : Int)) | exact (rfl : _ = ((41 : Nat) : Int)) | exact (rfl : _ = ((42 : Nat) : Int)) | exact (rfl : _ = ((43 : Nat) : Int)) | exact (rfl : _ = ((44 : Nat) : Int)) | exact (rfl : _ = ((45 : Nat) : Int)) | exact (rfl : _ = ((46 : Nat) : Int)) | exact (rfl : _ = ((47 : Nat) : Int)) | exact (rfl : _ = ((48 : Nat) : Int)) | exact (rfl : _ = ((49 : Nat) : Int)) | exact (rfl : _ = ((50 : Nat) : Int)) | exact (rfl : _ = ((51 : Nat) : Int)) | exact (rfl : _ = ((52 : Nat) : Int)) | exact (rfl : _ = ((53 : Nat) : Int)) | exact (rfl : _ = ((54 : Nat) : Int)) | exact (rfl : _ = ((55 : Nat) : Int)) | exact (rfl : _ = ((56 : Nat) : Int)) | exact (rfl : _ = ((57 : Nat) : Int)) | exact (rfl : _ = ((58 : Nat) : Int)) | exact (rfl : _ = ((59 : Nat) : Int)) | exact (rfl : _ = ((60 : Nat) : Int)) | exact (rfl : _ = ((61 : Nat) : Int)) | exact (rfl : _ = ((62 : Nat) : Int)) | exact (rfl : _ = ((63 : Nat) : Int)) | exact (rfl : _ = ((64 : Nat) : Int)) | exact (rfl : _ = ((128 : Nat) : Int)) | exact (rfl : _ = ((256 : Nat) : Int))); decide) | (apply PV.conv8W; exact rfl; exact tb rfl; exact tb rfl; exact rfl) | (apply PV.convW8; exact rfl; exact tb rfl; exact tb rfl; exact rfl) | (apply PV.compare; exact rfl; exact rfl; exact rfl) | (apply PV.arith; exact rfl; exact rfl; exact rfl) | (apply PV.fieldAddr; exact rfl; exact tb rfl; exact rfl; exact rfl; exact tb rfl; exact rfl; (first | exact (rfl : _ = 0) | exact (rfl : _ = 1) | exact (rfl : _ = 2) | exact (rfl : _ = 3) | exact (rfl : _ = 4) | exact (rfl : _ = 5) | exact (rfl : _ = 6) | exact (rfl : _ = 7) | exact (rfl : _ = 8) | exact (rfl : _ = 9) | exact (rfl : _ = 10) | exact (rfl : _ = 11) | exact (rfl : _ = 12) | exact (rfl : _ = 13) | exact (rfl : _ = 14) | exact (rfl : _ = 15) | exact (rfl : _ = 16) | exact (rfl : _ = 17) | exact (rfl : _ = 18) | exact (rfl : _ = 19) | exact (rfl : _ = 20) | exact (rfl : _ = 21) | exact (rfl : _ = 22) | exact (rfl : _ = 23) | exact (rfl : _ = 24) | exact (rfl : _ = 25) | exact (rfl : _ = 26) | exact (rfl : _ = 27) | exact (rfl : _ = 28) | exact (rfl : _ = 29) | exact (rfl : _ = 30) | exact (rfl : _ = 31) | exact (rfl : _ = 32) | exact (rfl : _ = 33) | exact (rfl : _ = 34) | exact (rfl : _ = 35) | exact (rfl : _ = 36) | exact (rfl : _ = 37) | exact (rfl : _ = 38) | exact (rfl : _ = 39) | exact (rfl : _ = 40) | exact (rfl : _ = 64) | exact (rfl : _ = 128) | exact rfl); (first | exact (rfl : _ = 0) | exact (rfl : _ = 1) | exact (rfl : _ = 2) | exact (rfl : _ = 3) | exact (rfl : _ = 4) | exact (rfl : _ = 5) | exact (rfl : _ = 6) | exact (rfl : _ = 7) | exact (rfl : _ = 8) | exact (rfl : _ = 9) | exact (rfl : _ = 10) | exact (rfl : _ = 11) | exact (rfl : _ = 12) | exact (rfl : _ = 13) | exact (rfl : _ = 14) | exact (rfl : _ = 15) | exact (rfl : _ = 16) | exact (rfl : _ = 17) | exact (rfl : _ = 18) | exact (rfl : _ = 19) | exact (rfl : _ = 20) | exact (rfl : _ = 21) | exact (rfl : _ = 22) | exact (rfl : _ = 23) | exact (rfl : _ = 24) | exact (rfl : _ = 25) | exact (rfl : _ = 26) | exact (rfl : _ = 27) | exact (rfl : _ = 28) | exact (rfl : _ = 29) | exact (rfl : _ = 30) | exact (rfl : _ = 31) | exact (rfl : _ = 32) | exact (rfl : _ = 33) | exact (rfl : _ = 34) | exact (rfl : _ = 35) | exact (rfl : _ = 36) | exact (rfl : _ = 37) | exact (rfl : _ = 38) | exact (rfl : _ = 39) | exact (rfl : _ = 40) | exact (rfl : _ = 64) | exact (rfl : _ = 128) | exact rfl)) | (apply PV.nilCheck; exact rfl) | (apply PV.not; exact rfl) | (apply PV.pickE; exact rfl; (first | exact (rfl : _ = w32 _) | exact (rfl : _ = Value.int _ _) | exact (rfl : _ = Value.slice _ _ _) | exact (rfl : _ = Value.pointer (some ⟨_, _, _⟩)) | exact (rfl : _ = Value.bool _) | exact (rfl : _ = Value.pointer none) | exact (rfl : _ = Value.string _) | exact (rfl : _ = Value.agg _) | exact (rfl : _ = Value.tuple _) | exact (rfl : _ = Value.func _ _ _) | exact (rfl : _ = Value.map _) | exact (rfl : _ = Value.iface _ _) | exact (rfl : _ = Value.nilIface) | exact (rfl : _ = Value.nilFunc) | exact rfl)) | (apply PV.load; exact rfl; exact tb rfl; exact rfl; (first | assumption | exact has_row 0 rfl rfl | exact has_row 1 rfl rfl | exact has_row 2 rfl rfl | exact has_row 3 rfl rfl | exact has_row 4 rfl rfl | exact has_row 5 rfl rfl | exact has_row 6 rfl rfl | (focus ((repeat (first | assumption | apply has_tlc)); done)))) | (apply PV.extract; exact rfl; (first | exact (rfl : _ = w32 _) | exact (rfl : _ = Value.int _ _) | exact (rfl : _ = Value.slice _ _ _) | exact (rfl : _ = Value.pointer (some ⟨_, _, _⟩)) | exact (rfl : _ = Value.bool _) | exact (rfl : _ = Value.pointer none) | exact (rfl : _ = Value.string _) | exact (rfl : _ = Value.agg _) | exact (rfl : _ = Value.tuple _) | exact (rfl : _ = Value.func _ _ _) | exact (rfl : _ = Value.map _) | exact (rfl : _ = Value.iface _ _) | exact (rfl : _ = Value.nilIface) | exact (rfl : _ = Value.nilFunc) | exact rfl)) | (apply PV.loadRow 0; exact rfl; exact rfl; exact tb rfl; exact rfl; (first | exact (rfl : _ = []) | exact (rfl : _ = [_]) | exact (rfl : _ = [_, _]) | exact (rfl : _ = [_, _, _]) | exact (rfl : _ = [_, _, _, _]) | exact (rfl : _ = [_, _, _, _, _]) | exact (rfl : _ = [_, _, _, _, _, _]) | exact (rfl : _ = [_, _, _, _, _, _, _]) | exact (rfl : _ = [_, _, _, _, _, _, _, _]) | exact (rfl : _ = [_, _, _, _, _, _, _, _, _]) | exact (rfl : _ = [_, _, _, _, _, _, _, _, _, _]) | exact (rfl : _ = [_, _, _, _, _, _, _, _, _, _, _]) | exact rfl); exact rfl) | (apply PV.loadRow 1; exact rfl; exact rfl; exact tb rfl; exact rfl; (first | exact (rfl : _ = []) | exact (rfl : _ = [_]) | exact (rfl : _ = [_, _]) | exact (rfl : _ = [_, _, _]) | exact (rfl : _ = [_, _, _, _]) | exact (rfl : _ = [_, _, _, _, _]) | exact (rfl : _ = [_, _, _, _, _, _]) | exact (rfl : _ = [_, _, _, _, _, _, _]) | exact (rfl : _ = [_, _, _, _, _, _, _, _]) | exact (rfl : _ = [_, _, _, _, _, _, _, _, _]) | exact (rfl : _ = [_, _, _, _, _, _, _, _, _, _]) | exact (rfl : _ = [_, _, _, _, _, _, _, _, _, _, _]) | exact rfl); exact rfl) | (apply PV.loadRow 2; exact rfl; exact rfl; exact tb rfl; exact rfl; (first | exact (rfl : _ = []) | exact (rfl : _ = [_]) | exact (rfl : _ = [_, _]) | exact (rfl : _ = [_, _, _]) | exact (rfl : _ = [_, _, _, _]) | exact (rfl : _ = [_, _, _, _, _]) | exact (rfl : _ = [_, _, _, _, _, _]) | exact (rfl : _ = [_, _, _, _, _, _, _]) | exact (rfl : _ = [_, _, _, _, _, _, _, _]) | exact (rfl : _ = [_, _, _, _, _, _, _, _, _]) | exact (rfl : _ = [_, _, _, _, _, _, _, _, _, _]) | exact (rfl : _ = [_, _, _, _, _, _, _, _, _, _, _]) | exact rfl); exact rfl) | (apply PV.loadRow 3; exact rfl; exact rfl; exact tb rfl; exact rfl; (first | exact (rfl : _ = []) | exact (rfl : _ = [_]) | exact (rfl : _ = [_, _]) | exact (rfl : _ = [_, _, _]) | exact (rfl : _ = [_, _, _, _]) | exact (rfl : _ = [_, _, _, _, _]) | exact (rfl : _ = [_, _, _, _, _, _]) | exact (rfl : _ = [_, _, _, _, _, _, _]) | exact (rfl : _ = [_, _, _, _, _, _, _, _]) | exact (rfl : _ = [_, _, _, _, _, _, _, _, _]) | exact (rfl : _ = [_, _, _, _, _, _, _, _, _, _]) | exact (rfl : _ = [_, _, _, _, _, _, _, _, _, _, _]) | exact rfl); exact rfl) | (apply PV.loadRow 4; exact rfl; exact rfl; exact tb rfl; exact rfl; (first | exact (rfl : _ = []) | exact (rfl : _ = [_]) | exact (rfl : _ = [_, _]) | exact (rfl : _ = [_, _, _]) | exact (rfl : _ = [_, _, _, _]) | exact (rfl : _ = [_, _, _, _, _]) | exact (rfl : _ = [_, _, _, _, _, _]) | exact (rfl : _ = [_, _, _, _, _, _, _]) | exact (rfl : _ = [_, _, _, _, _, _, _, _]) | exact (rfl : _ = [_, _, _, _, _, _, _, _, _]) | exact (rfl : _ = [_, _, _, _, _, _, _, _, _, _]) | exact (rfl : _ = [_, _, _, _, _, _, _, _, _, _, _]) | exact rfl); exact rfl) | (apply PV.loadRow 5; exact rfl; exact rfl; exact tb rfl; exact rfl; (first | exact (rfl : _ = []) | exact (rfl : _ = [_]) | exact (rfl : _ = [_, _]) | exact (rfl : _ = [_, _, _]) | exact (rfl : _ = [_, _, _, _]) | exact (rfl : _ = [_, _, _, _, _]) | exact (rfl : _ = [_, _, _, _, _, _]) | exact (rfl : _ = [_, _, _, _, _, _, _]) | exact (rfl : _ = [_, _, _, _, _, _, _, _]) | exact (rfl : _ = [_, _, _, _, _, _, _, _, _]) | exact (rfl : _ = [_, _, _, _, _, _, _, _, _, _]) | exact (rfl : _ = [_, _, _, _, _, _, _, _, _, _, _]) | exact rfl); exact rfl) | (apply PV.loadAggH; exact rfl; exact tb rfl; exact rfl; (first | assumption | exact has_rows 0 rfl rfl | exact has_rows 1 rfl rfl | exact has_rows 2 rfl rfl | exact has_rows 3 rfl rfl | (focus ((repeat (first | assumption | apply has_tlg)); done))); exact rfl) | (apply PV.eqPtr; exact rfl; exact tb rfl; exact rfl) | (apply PV.nePtr; exact rfl; exact tb rfl; exact rfl) | (apply PV.eqSlice; exact rfl; exact tb rfl; exact rfl) | (apply PV.neSlice; exact rfl; exact tb rfl; exact rfl) | (apply PV.conv; exact rfl; exact tb rfl; exact tb rfl; exact rfl) | (apply PV.eqBool; exact rfl; exact rfl; exact tb rfl; exact rfl) | (apply PV.neBool; exact rfl; exact rfl; exact tb rfl; exact rfl) | (apply PV.lenS; exact rfl; exact tb rfl; exact rfl) | (apply PV.lenStr; exact rfl; exact tb rfl; exact rfl) | (apply PV.indexS; exact rfl; exact rfl; exact tb rfl; exact rfl; assumption) | (apply PV.lenArray; exact tb rfl; exact rfl) | (apply PV.capSlice; exact rfl; exact tb rfl; exact rfl) | (apply PV.andM; exact rfl; exact rfl; (first | exact (rfl : _ = ((2 ^ 1 - 1 : Nat) : Int)) | exact (rfl : _ = ((2 ^ 2 - 1 : Nat) : Int)) | exact (rfl : _ = ((2 ^ 3 - 1 : Nat) : Int)) | exact (rfl : _ = ((2 ^ 4 - 1 : Nat) : Int)) | exact (rfl : _ = ((2 ^ 5 - 1 : Nat) : Int)) | exact (rfl : _ = ((2 ^ 6 - 1 : Nat) : Int)) | exact (rfl : _ = ((2 ^ 7 - 1 : Nat) : Int)) | exact (rfl : _ = ((2 ^ 8 - 1 : Nat) : Int)) | exact (rfl : _ = ((2 ^ 16 - 1 : Nat) : Int)) | exact (rfl : _ = ((2 ^ 32 - 1 : Nat) : Int))); decide; exact rfl) | (apply PV.bits; exact rfl; exact rfl; exact rfl) | (apply PV.shrN; exact rfl; exact rfl; (first | exact (rfl : _ = ((0 : Nat) : Int)) | exact (rfl : _ = ((1 : Nat) : Int)) | exact (rfl : _ = ((2 : Nat) : Int)) | exact (rfl : _ = ((3 : Nat) : Int)) | exact (rfl : _ = ((4 : Nat) : Int)) | exact (rfl : _ = ((5 : Nat) : Int)) | exact (rfl : _ = ((6 : Nat) : Int)) | exact (rfl : _ = ((7 : Nat) : Int)) | exact (rfl : _ = ((8 : Nat) : Int)) | exact (rfl : _ = ((9 : Nat) : Int)) | exact (rfl : _ = ((10 : Nat) : Int)) | exact (rfl : _ = ((11 : Nat) : Int)) | exact (rfl : _ = ((12 : Nat) : Int)) | exact (rfl : _ = ((13 : Nat) : Int)) | exact (rfl : _ = ((14 : Nat) : Int)) | exact (rfl : _ = ((15 : Nat) : Int)) | exact (rfl : _ = ((16 : Nat) : Int)) | exact (rfl : _ = ((17 : Nat) : Int)) | exact (rfl : _ = ((18 : Nat) : Int)) | exact (rfl : _ = ((19 : Nat) : Int)) | exact (rfl : _ = ((20 : Nat) : Int)) | exact (rfl : _ = ((21 : Nat) : Int)) | exact (rfl : _ = ((22 : Nat) : Int)) | exact (rfl : _ = ((23 : Nat) : Int)) | exact (rfl : _ = ((24 : Nat) : Int)) | exact (rfl : _ = ((25 : Nat) : Int)) | exact (rfl : _ = ((26 : Nat) : Int)) | exact (rfl : _ = ((27 : Nat) : Int)) | exact (rfl : _ = ((28 : Nat) : Int)) | exact (rfl : _ = ((29 : Nat) : Int)) | exact (rfl : _ = ((30 : Nat) : Int)) | exact (rfl : _ = ((31 : Nat) : Int)) | exact (rfl : _ = ((32 : Nat) : Int)) | exact (rfl : _ = ((33 : Nat) : Int)) | exact (rfl : _ = ((34 : Nat) : Int)) | exact (rfl : _ = ((35 : Nat) : Int)) | exact (rfl : _ = ((36 : Nat) : Int)) | exact (rfl : _ = ((37 : Nat) : Int)) | exact (rfl : _ = ((38 : Nat) : Int)) | exact (rfl : _ = ((39 : Nat) : Int)) | exact (rfl : _ = ((40 : Nat) : Int)) | exact (rfl : _ = ((41 : Nat) : Int)) | exact (rfl : _ = ((42 : Nat) : Int)) | exact (rfl : _ = ((43 : Nat) : Int)) | exact (rfl : _ = ((44 : Nat) : Int)) | exact (rfl : _ = ((45 : Nat) : Int)) | exact (rfl : _ = ((46 : Nat) : Int)) | exact (rfl : _ = ((47 : Nat) : Int)) | exact (rfl : _ = ((48 : Nat) : Int)) | exact (rfl : _ = ((49 : Nat) : Int)) | exact (rfl : _ = ((50 : Nat) : Int)) | exact (rfl : _ = ((51 : Nat) : Int)) | exact (rfl : _ = ((52 : Nat) : Int)) | exact (rfl : _ = ((53 : Nat) : Int)) | exact (rfl : _ = ((54 : Nat) : Int)) | exact (rfl : _ = ((55 : Nat) : Int)) | exact (rfl : _ = ((56 : Nat) : Int)) | exact (rfl : _ = ((57 : Nat) : Int)) | exact (rfl : _ = ((58 : Nat) : Int)) | exact (rfl : _ = ((59 : Nat) : Int)) | exact (rfl : _ = ((60 : Nat) : Int)) | exact (rfl : _ = ((61 : Nat) : Int)) | exact (rfl : _ = ((62 : Nat) : Int)) | exact (rfl : _ = ((63 : Nat) : Int)) | exact (rfl : _ = ((64 : Nat) : Int)) | exact (rfl : _ = ((128 : Nat) : Int)) | exact (rfl : _ = ((256 : Nat) : Int))); decide) | (apply PV.shlN; exact rfl; exact rfl; (first | exact (rfl : _ = ((0 : Nat) : Int)) | exact (rfl : _ = ((1 : Nat) : Int)) | exact (rfl : _ = ((2 : Nat) : Int)) | exact (rfl : _ = ((3 : Nat) : Int)) | exact (rfl : _ = ((4 : Nat) : Int)) | exact (rfl : _ = ((5 : Nat) : Int)) | exact (rfl : _ = ((6 : Nat) : Int)) | exact (rfl : _ = ((7 : Nat) : Int)) | exact (rfl : _ = ((8 : Nat) : Int)) | exact (rfl : _ = ((9 : Nat) : Int)) | exact (rfl : _ = ((10 : Nat) : Int)) | exact (rfl : _ = ((11 : Nat) : Int)) | exact (rfl : _ = ((12 : Nat) : Int)) | exact (rfl : _ = ((13 : Nat) : Int)) | exact (rfl : _ = ((14 : Nat) : Int)) | exact (rfl : _ = ((15 : Nat) : Int)) | exact (rfl : _ = ((16 : Nat) : Int)) | exact (rfl : _ = ((17 : Nat) : Int)) | exact (rfl : _ = ((18 : Nat) : Int)) | exact (rfl : _ = ((19 : Nat) : Int)) | exact (rfl : _ = ((20 : Nat) : Int)) | exact (rfl : _ = ((21 : Nat) : Int)) | exact (rfl : _ = ((22 : Nat) : Int)) | exact (rfl : _ = ((23 : Nat) : Int)) | exact (rfl : _ = ((24 : Nat) : Int)) | exact (rfl : _ = ((25 : Nat) : Int)) | exact (rfl : _ = ((26 : Nat) : Int)) | exact (rfl : _ = ((27 : Nat) : Int)) | exact (rfl : _ = ((28 : Nat) : Int)) | exact (rfl : _ = ((29 : Nat) : Int)) | exact (rfl : _ = ((30 : Nat) : Int)) | exact (rfl : _ = ((31 : Nat) : Int)) | exact (rfl : _ = ((32 : Nat) : Int)) | exact (rfl : _ = ((33 : Nat) : Int)) | exact (rfl : _ = ((34 : Nat) : Int)) | exact (rfl : _ = ((35 : Nat) : Int)) | exact (rfl : _ = ((36 : Nat) : Int)) | exact (rfl : _ = ((37 : Nat) : Int)) | exact (rfl : _ = ((38 : Nat) : Int)) | exact (rfl : _ = ((39 : Nat) : Int)) | exact (rfl : _ = ((40 : Nat) : Int)) | exact (rfl : _ = ((41 : Nat) : Int)) | exact (rfl : _ = ((42 : Nat) : Int)) | exact (rfl : _ = ((43 : Nat) : Int)) | exact (rfl : _ = ((44 : Nat) : Int)) | exact (rfl : _ = ((45 : Nat) : Int)) | exact (rfl : _ = ((46 : Nat) : Int)) | exact (rfl : _ = ((47 : Nat) : Int)) | exact (rfl : _ = ((48 : Nat) : Int)) | exact (rfl : _ = ((49 : Nat) : Int)) | exact (rfl : _ = ((50 : Nat) : Int)) | exact (rfl : _ = ((51 : Nat) : Int)) | exact (rfl : _ = ((52 : Nat) : Int)) | exact (rfl : _ = ((53 : Nat) : Int)) | exact (rfl : _ = ((54 : Nat) : Int)) | exact (rfl : _ = ((55 : Nat) : Int)) | exact (rfl : _ = ((56 : Nat) : Int)) | exact (rfl : _ = ((57 : Nat) : Int)) | exact (rfl : _ = ((58 : Nat) : Int)) | exact (rfl : _ = ((59 : Nat) : Int)) | exact (rfl : _ = ((60 : Nat) : Int)) | exact (rfl : _ = ((61 : Nat) : Int)) | exact (rfl : _ = ((62 : Nat) : Int)) | exact (rfl : _ = ((63 : Nat) : Int)) | exact (rfl : _ = ((64 : Nat) : Int)) | exact (rfl : _ = ((128 : Nat) : Int)) | exact (rfl : _ = ((256 : Nat) : Int))); decide; exact rfl) | (apply PV.remN; exact rfl; exact rfl; (first | exact (rfl : _ = ((0 : Nat) : Int)) | exact (rfl : _ = ((1 : Nat) : Int)) | exact (rfl : _ = ((2 : Nat) : Int)) | exact (rfl : _ = ((3 : Nat) : Int)) | exact (rfl : _ = ((4 : Nat) : Int)) | exact (rfl : _ = ((5 : Nat) : Int)) | exact (rfl : _ = ((6 : Nat) : Int)) | exact (rfl : _ = ((7 : Nat) : Int)) | exact (rfl : _ = ((8 : Nat) : Int)) | exact (rfl : _ = ((9 : Nat) : Int)) | exact (rfl : _ = ((10 : Nat) : Int)) | exact (rfl : _ = ((11 : Nat) : Int)) | exact (rfl : _ = ((12 : Nat) : Int)) | exact (rfl : _ = ((13 : Nat) : Int)) | exact (rfl : _ = ((14 : Nat) : Int)) | exact (rfl : _ = ((15 : Nat) : Int)) | exact (rfl : _ = ((16 : Nat) : Int)) | exact (rfl : _ = ((17 : Nat) : Int)) | exact (rfl : _ = ((18 : Nat) : Int)) | exact (rfl : _ = ((19 : Nat) : Int)) | exact (rfl : _ = ((20 : Nat) : Int)) | exact (rfl : _ = ((21 : Nat) : Int)) | exact (rfl : _ = ((22 : Nat) : Int)) | exact (rfl : _ = ((23 : Nat) : Int)) | exact (rfl : _ = ((24 : Nat) : Int)) | exact (rfl : _ = ((25 : Nat) : Int)) | exact (rfl : _ = ((26 : Nat) : Int)) | exact (rfl : _ = ((27 : Nat) : Int)) | exact (rfl : _ = ((28 : Nat) : Int)) | exact (rfl : _ = ((29 : Nat) : Int)) | exact (rfl : _ = ((30 : Nat) : Int)) | exact (rfl : _ = ((31 : Nat) : Int)) | exact (rfl : _ = ((32 : Nat) : Int)) | exact (rfl : _ = ((33 : Nat) : Int)) | exact (rfl : _ = ((34 : Nat) : Int)) | exact (rfl : _ = ((35 : Nat) : Int)) | exact (rfl : _ = ((36 : Nat) : Int)) | exact (rfl : _ = ((37 : Nat) : Int)) | exact (rfl : _ = ((38 : Nat) : Int)) | exact (rfl : _ = ((39 : Nat) : Int)) | exact (rfl : _ = ((40 : Nat) : Int)) | exact (rfl : _ = ((41 : Nat) : Int)) | exact (rfl : _ = ((42 : Nat) : Int)) | exact (rfl : _ = ((43 : Nat) : Int)) | exact (rfl : _ = ((44 : Nat) : Int)) | exact (rfl : _ = ((45 : Nat) : Int)) | exact (rfl : _ = ((46 : Nat) : Int)) | exact (rfl : _ = ((47 : Nat) : Int)) | exact (rfl : _ = ((48 : Nat) : Int)) | exact (rfl : _ = ((49 : Nat) : Int)) | exact (rfl : _ = ((50 : Nat) : Int)) | exact (rfl : _ = ((51 : Nat) : Int)) | exact (rfl : _ = ((52 : Nat) : Int)) | exact (rfl : _ = ((53 : Nat) : Int)) | exact (rfl : _ = ((54 : Nat) : Int)) | exact (rfl : _ = ((55 : Nat) : Int)) | exact (rfl : _ = ((56 : Nat) : Int)) | exact (rfl : _ = ((57 : Nat) : Int)) | exact (rfl : _ = ((58 : Nat) : Int)) | exact (rfl : _ = ((59 : Nat) : Int)) | exact (rfl : _ = ((60 : Nat) : Int)) | exact (rfl : _ = ((61 : Nat) : Int)) | exact (rfl : _ = ((62 : Nat) : Int)) | exact (rfl : _ = ((63 : Nat) : Int)) | exact (rfl : _ = ((64 : Nat) : Int)) | exact (rfl : _ = ((128 : Nat) : Int)) | exact (rfl : _ = ((256 : Nat) : Int))); decide) | (apply PV.rem; exact rfl; exact rfl; decide) | (apply PV.quo; exact rfl; exact rfl; decide) | (apply PV.min3; exact rfl; exact rfl; exact rfl) | (apply PV.min2; exact rfl; exact rfl) | (apply PV.max2; exact rfl; exact rfl) | (apply PV.eqS; exact rfl; exact rfl) | (apply PV.neS; exact rfl; exact rfl) | (apply PV.eqStr; exact rfl; exact rfl) | (apply PV.neStr; exact rfl; exact rfl) | (apply PV.neg; exact rfl) | (apply PV.eqMap; exact rfl; exact tb rfl; exact rfl) | (apply PV.neMap; exact rfl; exact tb rfl; exact rfl) | (apply PV.convBS; exact rfl; exact tb rfl; exact rfl; exact tb rfl; exact rfl; exact tb rfl; exact rfl; (first | (focus ((repeat (first | assumption | apply has_tls)); done)) | exact has_bs 0 rfl | exact has_bs 1 rfl | exact has_bs 2 rfl | exact has_bs 3 rfl | exact has_bs 4 rfl | exact has_bs 5 rfl | exact has_src_row 0 rfl rfl | exact has_src_row 1 rfl rfl | exact has_src_row 2 rfl rfl | exact has_src_row 3 rfl rfl | exact has_srcnil _ _)) | (apply PV.indexAddr; exact rfl; exact rfl; exact tb rfl; exact rfl; exact tb rfl; omega; omega; (first | (simp only [Int.toNat_natCast, Nat.mul_one, Nat.zero_add]; exact rfl) | exact rfl)) | (apply PV.indexAddrArr; exact rfl; exact rfl; exact tb rfl; exact rfl; exact tb rfl; omega; omega; (first | (simp only [Int.toNat_natCast, Nat.mul_one, Nat.zero_add]; exact rfl) | exact rfl)) | (apply PV.indexArr; exact rfl; exact rfl; exact tb rfl; exact rfl; exact tb rfl; exact rfl; exact rfl; omega; assumption))) | (apply TB.takeP at_; exact rfl; exact rfl; kernel_rfl; (focus ((repeat (first | assumption | exact Ent.refl _ | apply Ent.tail)); done)); (first | (apply PV.moveE; (first | exact (rfl : _ = w32 _) | exact (rfl : _ = Value.int _ _) | exact (rfl : _ = Value.slice _ _ _) | exact (rfl : _ = Value.pointer (some ⟨_, _, _⟩)) | exact (rfl : _ = Value.bool _) | exact (rfl : _ = Value.pointer none) | exact (rfl : _ = Value.string _) | exact (rfl : _ = Value.agg _) | exact (rfl : _ = Value.tuple _) | exact (rfl : _ = Value.func _ _ _) | exact (rfl : _ = Value.map _) | exact (rfl : _ = Value.iface _ _) | exact (rfl : _ = Value.nilIface) | exact (rfl : _ = Value.nilFunc) | exact rfl)) | (apply PV.assignE; (first | exact (rfl : _ = w32 _) | exact (rfl : _ = Value.int _ _) | exact (rfl : _ = Value.slice _ _ _) | exact (rfl : _ = Value.pointer (some ⟨_, _, _⟩)) | exact (rfl : _ = Value.bool _) | exact (rfl : _ = Value.pointer none) | exact (rfl : _ = Value.string _) | exact (rfl : _ = Value.agg _) | exact (rfl : _ = Value.tuple _) | exact (rfl : _ = Value.func _ _ _) | exact (rfl : _ = Value.map _) | exact (rfl : _ = Value.iface _ _) | exact (rfl : _ = Value.nilIface) | exact (rfl : _ = Value.nilFunc) | exact rfl)) | (apply PV.lenSlice; exact rfl; exact tb rfl; exact rfl) | (apply PV.addW; exact rfl; exact rfl) | (apply PV.xorW; exact rfl; exact rfl) | (apply PV.andW; exact rfl; exact rfl) | (apply PV.orW; exact rfl; exact rfl) | (apply PV.notW; exact rfl) | (apply PV.shrW; exact rfl; exact rfl; (first | exact (rfl : _ = ((0 : Nat) : Int)) | exact (rfl : _ = ((1 : Nat) : Int)) | exact (rfl : _ = ((2 : Nat) : Int)) | exact (rfl : _ = ((3 : Nat) : Int)) | exact (rfl : _ = ((4 : Nat) : Int)) | exact (rfl : _ = ((5 : Nat) : Int)) | exact (rfl : _ = ((6 : Nat) : Int)) | exact (rfl : _ = ((7 : Nat) : Int)) | exact (rfl : _ = ((8 : Nat) : Int)) | exact (rfl : _ = ((9 : Nat) : Int)) | exact (rfl : _ = ((10 : Nat) : Int)) | exact (rfl : _ = ((11 : Nat) : Int)) | exact (rfl : _ = ((12 : Nat) : Int)) | exact (rfl : _ = ((13 : Nat) : Int)) | exact (rfl : _ = ((14 : Nat) : Int)) | exact (rfl : _ = ((15 : Nat) : Int)) | exact (rfl : _ = ((16 : Nat) : Int)) | exact (rfl : _ = ((17 : Nat) : Int)) | exact (rfl : _ = ((18 : Nat) : Int)) | exact (rfl : _ = ((19 : Nat) : Int)) | exact (rfl : _ = ((20 : Nat) : Int)) | exact (rfl : _ = ((21 : Nat) : Int)) | exact (rfl : _ = ((22 : Nat) : Int)) | exact (rfl : _ = ((23 : Nat) : Int)) | exact (rfl : _ = ((24 : Nat) : Int)) | exact (rfl : _ = ((25 : Nat) : Int)) | exact (rfl : _ = ((26 : Nat) : Int)) | exact (rfl : _ = ((27 : Nat) : Int)) | exact (rfl : _ = ((28 : Nat) : Int)) | exact (rfl : _ = ((29 : Nat) : Int)) | exact (rfl : _ = ((30 : Nat) : Int)) | exact (rfl : _ = ((31 : Nat) : Int)) | exact (rfl : _ = ((32 : Nat) : Int)) | exact (rfl : _ = ((33 : Nat) : Int)) | exact (rfl : _ = ((34 : Nat) : Int)) | exact (rfl : _ = ((35 : Nat) : Int)) | exact (rfl : _ = ((36 : Nat) : Int)) | exact (rfl : _ = ((37 : Nat) : Int)) | exact (rfl : _ = ((38 : Nat) : Int)) | exact (rfl : _ = ((39 : Nat) : Int)) | exact (rfl : _ = ((40 : Nat) : Int)) | exact (rfl : _ = ((41 : Nat) : Int)) | exact (rfl : _ = ((42 : Nat) : Int)) | exact (rfl : _ = ((43 : Nat) : Int)) | exact (rfl : _ = ((44 : Nat) : Int)) | exact (rfl : _ = ((45 : Nat) : Int)) | exact (rfl : _ = ((46 : Nat) : Int)) | exact (rfl : _ = ((47 : Nat) : Int)) | exact (rfl : _ = ((48 : Nat) : Int)) | exact (rfl : _ = ((49 : Nat) : Int)) | exact (rfl : _ = ((50 : Nat) : Int)) | exact (rfl : _ = ((51 : Nat) : Int)) | exact (rfl : _ = ((52 : Nat) : Int)) | exact (rfl : _ = ((53 : Nat) : Int)) | exact (rfl : _ = ((54 : Nat) : Int)) | exact (rfl : _ = ((55 : Nat) : Int)) | exact (rfl : _ = ((56 : Nat) : Int)) | exact (rfl : _ = ((57 : Nat) : Int)) | exact (rfl : _ = ((58 : Nat) : Int)) | exact (rfl : _ = ((59 : Nat) : Int)) | exact (rfl : _ = ((60 : Nat) : Int)) | exact (rfl : _ = ((61 : Nat) : Int)) | exact (rfl : _ = ((62 : Nat) : Int)) | exact (rfl : _ = ((63 : Nat) : Int)) | exact (rfl : _ = ((64 : Nat) : Int)) | exact (rfl : _ = ((128 : Nat) : Int)) | exact (rfl : _ = ((256 : Nat) : Int))); decide) | (apply PV.shlW; exact rfl; exact rfl; (first | exact (rfl : _ = ((0 : Nat) : Int)) | exact (rfl : _ = ((1 : Nat) : Int)) | exact (rfl : _ = ((2 : Nat) : Int)) | exact (rfl : _ = ((3 : Nat) : Int)) | exact (rfl : _ = ((4 : Nat) : Int)) | exact (rfl : _ = ((5 : Nat) : Int)) | exact (rfl : _ = ((6 : Nat) : Int)) | exact (rfl : _ = ((7 : Nat) : Int)) | exact (rfl : _ = ((8 : Nat) : Int)) | exact (rfl : _ = ((9 : Nat) : Int)) | exact (rfl : _ = ((10 : Nat) : Int)) | exact (rfl : _ = ((11 : Nat) : Int)) | exact (rfl : _ = ((12 : Nat) : Int)) | exact (rfl : _ = ((13 : Nat) : Int)) | exact (rfl : _ = ((14 : Nat) : Int)) | exact (rfl : _ = ((15 : Nat) : Int)) | exact (rfl : _ = ((16 : Nat) : Int)) | exact (rfl : _ = ((17 : Nat) : Int)) | exact (rfl : _ = ((18 : Nat) : Int)) | exact (rfl : _ = ((19 : Nat) : Int)) | exact (rfl : _ = ((20 : Nat) : Int)) | exact (rfl : _ = ((21 : Nat) : Int)) | exact (rfl : _ = ((22 : Nat) : Int)) | exact (rfl : _ = ((23 : Nat) : Int)) | exact (rfl : _ = ((24 : Nat) : Int)) | exact (rfl : _ = ((25 : Nat) : Int)) | exact (rfl : _ = ((26 : Nat) : Int)) | exact (rfl : _ = ((27 : Nat) : Int)) | exact (rfl : _ = ((28 : Nat) : Int)) | exact (rfl : _ = ((29 : Nat) : Int)) | exact (rfl : _ = ((30 : Nat) : Int)) | exact (rfl : _ = ((31 : Nat) : Int)) | exact (rfl : _ = ((32 : Nat) : Int)) | exact (rfl : _ = ((33 : Nat) : Int)) | exact (rfl : _ = ((34 : Nat) : Int)) | exact (rfl : _ = ((35 : Nat) : Int)) | exact (rfl : _ = ((36 : Nat) : Int)) | exact (rfl : _ = ((37 : Nat) : Int)) | exact (rfl : _ = ((38 : Nat) : Int)) | exact (rfl : _ = ((39 : Nat) : Int)) | exact (rfl : _ = ((40 : Nat) : Int)) | exact (rfl : _ = ((41 : Nat) : Int)) | exact (rfl : _ = ((42 : Nat) : Int)) | exact (rfl : _ = ((43 : Nat) : Int)) | exact (rfl : _ = ((44 : Nat) : Int)) | exact (rfl : _ = ((45 : Nat) : Int)) | exact (rfl : _ = ((46 : Nat) : Int)) | exact (rfl : _ = ((47 : Nat) : Int)) | exact (rfl : _ = ((48 : Nat) : Int)) | exact (rfl : _ = ((49 : Nat) : Int)) | exact (rfl : _ = ((50 : Nat) : Int)) | exact (rfl : _ = ((51 : Nat) : Int)) | exact (rfl : _ = ((52 : Nat) : Int)) | exact (rfl : _ = ((53 : Nat) : Int)) | exact (rfl : _ = ((54 : Nat) : Int)) | exact (rfl : _ = ((55 : Nat) : Int)) | exact (rfl : _ = ((56 : Nat) : Int)) | exact (rfl : _ = ((57 : Nat) : Int)) | exact (rfl : _ = ((58 : Nat) : Int)) | exact (rfl : _ = ((59 : Nat) : Int)) | exact (rfl : _ = ((60 : Nat) : Int)) | exact (rfl : _ = ((61 : Nat) : Int)) | exact (rfl : _ = ((62 : Nat) : Int)) | exact (rfl : _ = ((63 : Nat) : Int)) | exact (rfl : _ = ((64 : Nat) : Int)) | exact (rfl : _ = ((128 : Nat) : Int)) | exact (rfl : _ = ((256 : Nat) : Int))); decide) | (apply PV.conv8W; exact rfl; exact tb rfl; exact tb rfl; exact rfl) | (apply PV.convW8; exact rfl; exact tb rfl; exact tb rfl; exact rfl) | (apply PV.compare; exact rfl; exact rfl; exact rfl) | (apply PV.arith; exact rfl; exact rfl; exact rfl) | (apply PV.fieldAddr; exact rfl; exact tb rfl; exact rfl; exact rfl; exact tb rfl; exact rfl; (first | exact (rfl : _ = 0) | exact (rfl : _ = 1) | exact (rfl : _ = 2) | exact (rfl : _ = 3) | exact (rfl : _ = 4) | exact (rfl : _ = 5) | exact (rfl : _ = 6) | exact (rfl : _ = 7) | exact (rfl : _ = 8) | exact (rfl : _ = 9) | exact (rfl : _ = 10) | exact (rfl : _ = 11) | exact (rfl : _ = 12) | exact (rfl : _ = 13) | exact (rfl : _ = 14) | exact (rfl : _ = 15) | exact (rfl : _ = 16) | exact (rfl : _ = 17) | exact (rfl : _ = 18) | exact (rfl : _ = 19) | exact (rfl : _ = 20) | exact (rfl : _ = 21) | exact (rfl : _ = 22) | exact (rfl : _ = 23) | exact (rfl : _ = 24) | exact (rfl : _ = 25) | exact (rfl : _ = 26) | exact (rfl : _ = 27) | exact (rfl : _ = 28) | exact (rfl : _ = 29) | exact (rfl : _ = 30) | exact (rfl : _ = 31) | exact (rfl : _ = 32) | exact (rfl : _ = 33) | exact (rfl : _ = 34) | exact (rfl : _ = 35) | exact (rfl : _ = 36) | exact (rfl : _ = 37) | exact (rfl : _ = 38) | exact (rfl : _ = 39) | exact (rfl : _ = 40) | exact (rfl : _ = 64) | exact (rfl : _ = 128) | exact rfl); (first | exact (rfl : _ = 0) | exact (rfl : _ = 1) | exact (rfl : _ = 2) | exact (rfl : _ = 3) | exact (rfl : _ = 4) | exact (rfl : _ = 5) | exact (rfl : _ = 6) | exact (rfl : _ = 7) | exact (rfl : _ = 8) | exact (rfl : _ = 9) | exact (rfl : _ = 10) | exact (rfl : _ = 11) | exact (rfl : _ = 12) | exact (rfl : _ = 13) | exact (rfl : _ = 14) | exact (rfl : _ = 15) | exact (rfl : _ = 16) | exact (rfl : _ = 17) | exact (rfl : _ = 18) | exact (rfl : _ = 19) | exact (rfl : _ = 20) | exact (rfl : _ = 21) | exact (rfl : _ = 22) | exact (rfl : _ = 23) | exact (rfl : _ = 24) | exact (rfl : _ = 25) | exact (rfl : _ = 26) | exact (rfl : _ = 27) | exact (rfl : _ = 28) | exact (rfl : _ = 29) | exact (rfl : _ = 30) | exact (rfl : _ = 31) | exact (rfl : _ = 32) | exact (rfl : _ = 33) | exact (rfl : _ = 34) | exact (rfl : _ = 35) | exact (rfl : _ = 36) | exact (rfl : _ = 37) | exact (rfl : _ = 38) | exact (rfl : _ = 39) | exact (rfl : _ = 40) | exact (rfl : _ = 64) | exact (rfl : _ = 128) | exact rfl)) | (apply PV.nilCheck; exact rfl) | (apply PV.not; exact rfl) | (apply PV.pickE; exact rfl; (first | exact (rfl : _ = w32 _) | exact (rfl : _ = Value.int _ _) | exact (rfl : _ = Value.slice _ _ _) | exact (rfl : _ = Value.pointer (some ⟨_, _, _⟩)) | exact (rfl : _ = Value.bool _) | exact (rfl : _ = Value.pointer none) | exact (rfl : _ = Value.string _) | exact (rfl : _ = Value.agg _) | exact (rfl : _ = Value.tuple _) | exact (rfl : _ = Value.func _ _ _) | exact (rfl : _ = Value.map _) | exact (rfl : _ = Value.iface _ _) | exact (rfl : _ = Value.nilIface) | exact (rfl : _ = Value.nilFunc) | exact rfl)) | (apply PV.load; exact rfl; exact tb rfl; exact rfl; (first | assumption | exact has_row 0 rfl rfl | exact has_row 1 rfl rfl | exact has_row 2 rfl rfl | exact has_row 3 rfl rfl | exact has_row 4 rfl rfl | exact has_row 5 rfl rfl | exact has_row 6 rfl rfl | (focus ((repeat (first | assumption | apply has_tlc)); done)))) | (apply PV.extract; exact rfl; (first | exact (rfl : _ = w32 _) | exact (rfl : _ = Value.int _ _) | exact (rfl : _ = Value.slice _ _ _) | exact (rfl : _ = Value.pointer (some ⟨_, _, _⟩)) | exact (rfl : _ = Value.bool _) | exact (rfl : _ = Value.pointer none) | exact (rfl : _ = Value.string _) | exact (rfl : _ = Value.agg _) | exact (rfl : _ = Value.tuple _) | exact (rfl : _ = Value.func _ _ _) | exact (rfl : _ = Value.map _) | exact (rfl : _ = Value.iface _ _) | exact (rfl : _ = Value.nilIface) | exact (rfl : _ = Value.nilFunc) | exact rfl)) | (apply PV.loadRow 0; exact rfl; exact rfl; exact tb rfl; exact rfl; (first | exact (rfl : _ = []) | exact (rfl : _ = [_]) | exact (rfl : _ = [_, _]) | exact (rfl : _ = [_, _, _]) | exact (rfl : _ = [_, _, _, _]) | exact (rfl : _ = [_, _, _, _, _]) | exact (rfl : _ = [_, _, _, _, _, _]) | exact (rfl : _ = [_, _, _, _, _, _, _]) | exact (rfl : _ = [_, _, _, _, _, _, _, _]) | exact (rfl : _ = [_, _, _, _, _, _, _, _, _]) | exact (rfl : _ = [_, _, _, _, _, _, _, _, _, _]) | exact (rfl : _ = [_, _, _, _, _, _, _, _, _, _, _]) | exact rfl); exact rfl) | (apply PV.loadRow 1; exact rfl; exact rfl; exact tb rfl; exact rfl; (first | exact (rfl : _ = []) | exact (rfl : _ = [_]) | exact (rfl : _ = [_, _]) | exact (rfl : _ = [_, _, _]) | exact (rfl : _ = [_, _, _, _]) | exact (rfl : _ = [_, _, _, _, _]) | exact (rfl : _ = [_, _, _, _, _, _]) | exact (rfl : _ = [_, _, _, _, _, _, _]) | exact (rfl : _ = [_, _, _, _, _, _, _, _]) | exact (rfl : _ = [_, _, _, _, _, _, _, _, _]) | exact (rfl : _ = [_, _, _, _, _, _, _, _, _, _]) | exact (rfl : _ = [_, _, _, _, _, _, _, _, _, _, _]) | exact rfl); exact rfl) | (apply PV.loadRow 2; exact rfl; exact rfl; exact tb rfl; exact rfl; (first | exact (rfl : _ = []) | exact (rfl : _ = [_]) | exact (rfl : _ = [_, _]) | exact (rfl : _ = [_, _, _]) | exact (rfl : _ = [_, _, _, _]) | exact (rfl : _ = [_, _, _, _, _]) | exact (rfl : _ = [_, _, _, _, _, _]) | exact (rfl : _ = [_, _, _, _, _, _, _]) | exact (rfl : _ = [_, _, _, _, _, _, _, _]) | exact (rfl : _ = [_, _, _, _, _, _, _, _, _]) | exact (rfl : _ = [_, _, _, _, _, _, _, _, _, _]) | exact (rfl : _ = [_, _, _, _, _, _, _, _, _, _, _]) | exact rfl); exact rfl) | (apply PV.loadRow 3; exact rfl; exact rfl; exact tb rfl; exact rfl; (first | exact (rfl : _ = []) | exact (rfl : _ = [_]) | exact (rfl : _ = [_, _]) | exact (rfl : _ = [_, _, _]) | exact (rfl : _ = [_, _, _, _]) | exact (rfl : _ = [_, _, _, _, _]) | exact (rfl : _ = [_, _, _, _, _, _]) | exact (rfl : _ = [_, _, _, _, _, _, _]) | exact (rfl : _ = [_, _, _, _, _, _, _, _]) | exact (rfl : _ = [_, _, _, _, _, _, _, _, _]) | exact (rfl : _ = [_, _, _, _, _, _, _, _, _, _]) | exact (rfl : _ = [_, _, _, _, _, _, _, _, _, _, _]) | exact rfl); exact rfl) | (apply PV.loadRow 4; exact rfl; exact rfl; exact tb rfl; exact rfl; (first | exact (rfl : _ = []) | exact (rfl : _ = [_]) | exact (rfl : _ = [_, _]) | exact (rfl : _ = [_, _, _]) | exact (rfl : _ = [_, _, _, _]) | exact (rfl : _ = [_, _, _, _, _]) | exact (rfl : _ = [_, _, _, _, _, _]) | exact (rfl : _ = [_, _, _, _, _, _, _]) | exact (rfl : _ = [_, _, _, _, _, _, _, _]) | exact (rfl : _ = [_, _, _, _, _, _, _, _, _]) | exact (rfl : _ = [_, _, _, _, _, _, _, _, _, _]) | exact (rfl : _ = [_, _, _, _, _, _, _, _, _, _, _]) | exact rfl); exact rfl) | (apply PV.loadRow 5; exact rfl; exact rfl; exact tb rfl; exact rfl; (first | exact (rfl : _ = []) | exact (rfl : _ = [_]) | exact (rfl : _ = [_, _]) | exact (rfl : _ = [_, _, _]) | exact (rfl : _ = [_, _, _, _]) | exact (rfl : _ = [_, _, _, _, _]) | exact (rfl : _ = [_, _, _, _, _, _]) | exact (rfl : _ = [_, _, _, _, _, _, _]) | exact (rfl : _ = [_, _, _, _, _, _, _, _]) | exact (rfl : _ = [_, _, _, _, _, _, _, _, _]) | exact (rfl : _ = [_, _, _, _, _, _, _, _, _, _]) | exact (rfl : _ = [_, _, _, _, _, _, _, _, _, _, _]) | exact rfl); exact rfl) | (apply PV.loadAggH; exact rfl; exact tb rfl; exact rfl; (first | assumption | exact has_rows 0 rfl rfl | exact has_rows 1 rfl rfl | exact has_rows 2 rfl rfl | exact has_rows 3 rfl rfl | (focus ((repeat (first | assumption | apply has_tlg)); done))); exact rfl) | (apply PV.eqPtr; exact rfl; exact tb rfl; exact rfl) | (apply PV.nePtr; exact rfl; exact tb rfl; exact rfl) | (apply PV.eqSlice; exact rfl; exact tb rfl; exact rfl) | (apply PV.neSlice; exact rfl; exact tb rfl; exact rfl) | (apply PV.conv; exact rfl; exact tb rfl; exact tb rfl; exact rfl) | (apply PV.eqBool; exact rfl; exact rfl; exact tb rfl; exact rfl) | (apply PV.neBool; exact rfl; exact rfl; exact tb rfl; exact rfl) | (apply PV.lenS; exact rfl; exact tb rfl; exact rfl) | (apply PV.lenStr; exact rfl; exact tb rfl; exact rfl) | (apply PV.indexS; exact rfl; exact rfl; exact tb rfl; exact rfl; assumption) | (apply PV.lenArray; exact tb rfl; exact rfl) | (apply PV.capSlice; exact rfl; exact tb rfl; exact rfl) | (apply PV.andM; exact rfl; exact rfl; (first | exact (rfl : _ = ((2 ^ 1 - 1 : Nat) : Int)) | exact (rfl : _ = ((2 ^ 2 - 1 : Nat) : Int)) | exact (rfl : _ = ((2 ^ 3 - 1 : Nat) : Int)) | exact (rfl : _ = ((2 ^ 4 - 1 : Nat) : Int)) | exact (rfl : _ = ((2 ^ 5 - 1 : Nat) : Int)) | exact (rfl : _ = ((2 ^ 6 - 1 : Nat) : Int)) | exact (rfl : _ = ((2 ^ 7 - 1 : Nat) : Int)) | exact (rfl : _ = ((2 ^ 8 - 1 : Nat) : Int)) | exact (rfl : _ = ((2 ^ 16 - 1 : Nat) : Int)) | exact (rfl : _ = ((2 ^ 32 - 1 : Nat) : Int))); decide; exact rfl) | (apply PV.bits; exact rfl; exact rfl; exact rfl) | (apply PV.shrN; exact rfl; exact rfl; (first | exact (rfl : _ = ((0 : Nat) : Int)) | exact (rfl : _ = ((1 : Nat) : Int)) | exact (rfl : _ = ((2 : Nat) : Int)) | exact (rfl : _ = ((3 : Nat) : Int)) | exact (rfl : _ = ((4 : Nat) : Int)) | exact (rfl : _ = ((5 : Nat) : Int)) | exact (rfl : _ = ((6 : Nat) : Int)) | exact (rfl : _ = ((7 : Nat) : Int)) | exact (rfl : _ = ((8 : Nat) : Int)) | exact (rfl : _ = ((9 : Nat) : Int)) | exact (rfl : _ = ((10 : Nat) : Int)) | exact (rfl : _ = ((11 : Nat) : Int)) | exact (rfl : _ = ((12 : Nat) : Int)) | exact (rfl : _ = ((13 : Nat) : Int)) | exact (rfl : _ = ((14 : Nat) : Int)) | exact (rfl : _ = ((15 : Nat) : Int)) | exact (rfl : _ = ((16 : Nat) : Int)) | exact (rfl : _ = ((17 : Nat) : Int)) | exact (rfl : _ = ((18 : Nat) : Int)) | exact (rfl : _ = ((19 : Nat) : Int)) | exact (rfl : _ = ((20 : Nat) : Int)) | exact (rfl : _ = ((21 : Nat) : Int)) | exact (rfl : _ = ((22 : Nat) : Int)) | exact (rfl : _ = ((23 : Nat) : Int)) | exact (rfl : _ = ((24 : Nat) : Int)) | exact (rfl : _ = ((25 : Nat) : Int)) | exact (rfl : _ = ((26 : Nat) : Int)) | exact (rfl : _ = ((27 : Nat) : Int)) | exact (rfl : _ = ((28 : Nat) : Int)) | exact (rfl : _ = ((29 : Nat) : Int)) | exact (rfl : _ = ((30 : Nat) : Int)) | exact (rfl : _ = ((31 : Nat) : Int)) | exact (rfl : _ = ((32 : Nat) : Int)) | exact (rfl : _ = ((33 : Nat) : Int)) | exact (rfl : _ = ((34 : Nat) : Int)) | exact (rfl : _ = ((35 : Nat) : Int)) | exact (rfl : _ = ((36 : Nat) : Int)) | exact (rfl : _ = ((37 : Nat) : Int)) | exact (rfl : _ = ((38 : Nat) : Int)) | exact (rfl : _ = ((39 : Nat) : Int)) | exact (rfl : _ = ((40 : Nat) : Int)) | exact (rfl : _ = ((41 : Nat) : Int)) | exact (rfl : _ = ((42 : Nat) : Int)) | exact (rfl : _ = ((43 : Nat) : Int)) | exact (rfl : _ = ((44 : Nat) : Int)) | exact (rfl : _ = ((45 : Nat) : Int)) | exact (rfl : _ = ((46 : Nat) : Int)) | exact (rfl : _ = ((47 : Nat) : Int)) | exact (rfl : _ = ((48 : Nat) : Int)) | exact (rfl : _ = ((49 : Nat) : Int)) | exact (rfl : _ = ((50 : Nat) : Int)) | exact (rfl : _ = ((51 : Nat) : Int)) | exact (rfl : _ = ((52 : Nat) : Int)) | exact (rfl : _ = ((53 : Nat) : Int)) | exact (rfl : _ = ((54 : Nat) : Int)) | exact (rfl : _ = ((55 : Nat) : Int)) | exact (rfl : _ = ((56 : Nat) : Int)) | exact (rfl : _ = ((57 : Nat) : Int)) | exact (rfl : _ = ((58 : Nat) : Int)) | exact (rfl : _ = ((59 : Nat) : Int)) | exact (rfl : _ = ((60 : Nat) : Int)) | exact (rfl : _ = ((61 : Nat) : Int)) | exact (rfl : _ = ((62 : Nat) : Int)) | exact (rfl : _ = ((63 : Nat) : Int)) | exact (rfl : _ = ((64 : Nat) : Int)) | exact (rfl : _ = ((128 : Nat) : Int)) | exact (rfl : _ = ((256 : Nat) : Int))); decide) | (apply PV.shlN; exact rfl; exact rfl; (first | exact (rfl : _ = ((0 : Nat) : Int)) | exact (rfl : _ = ((1 : Nat) : Int)) | exact (rfl : _ = ((2 : Nat) : Int)) | exact (rfl : _ = ((3 : Nat) : Int)) | exact (rfl : _ = ((4 : Nat) : Int)) | exact (rfl : _ = ((5 : Nat) : Int)) | exact (rfl : _ = ((6 : Nat) : Int)) | exact (rfl : _ = ((7 : Nat) : Int)) | exact (rfl : _ = ((8 : Nat) : Int)) | exact (rfl : _ = ((9 : Nat) : Int)) | exact (rfl : _ = ((10 : Nat) : Int)) | exact (rfl : _ = ((11 : Nat) : Int)) | exact (rfl : _ = ((12 : Nat) : Int)) | exact (rfl : _ = ((13 : Nat) : Int)) | exact (rfl : _ = ((14 : Nat) : Int)) | exact (rfl : _ = ((15 : Nat) : Int)) | exact (rfl : _ = ((16 : Nat) : Int)) | exact (rfl : _ = ((17 : Nat) : Int)) | exact (rfl : _ = ((18 : Nat) : Int)) | exact (rfl : _ = ((19 : Nat) : Int)) | exact (rfl : _ = ((20 : Nat) : Int)) | exact (rfl : _ = ((21 : Nat) : Int)) | exact (rfl : _ = ((22 : Nat) : Int)) | exact (rfl : _ = ((23 : Nat) : Int)) | exact (rfl : _ = ((24 : Nat) : Int)) | exact (rfl : _ = ((25 : Nat) : Int)) | exact (rfl : _ = ((26 : Nat) : Int)) | exact (rfl : _ = ((27 : Nat) : Int)) | exact (rfl : _ = ((28 : Nat) : Int)) | exact (rfl : _ = ((29 : Nat) : Int)) | exact (rfl : _ = ((30 : Nat) : Int)) | exact (rfl : _ = ((31 : Nat) : Int)) | exact (rfl : _ = ((32 : Nat) : Int)) | exact (rfl : _ = ((33 : Nat) : Int)) | exact (rfl : _ = ((34 : Nat) : Int)) | exact (rfl : _ = ((35 : Nat) : Int)) | exact (rfl : _ = ((36 : Nat) : Int)) | exact (rfl : _ = ((37 : Nat) : Int)) | exact (rfl : _ = ((38 : Nat) : Int)) | exact (rfl : _ = ((39 : Nat) : Int)) | exact (rfl : _ = ((40 : Nat) : Int)) | exact (rfl : _ = ((41 : Nat) : Int)) | exact (rfl : _ = ((42 : Nat) : Int)) | exact (rfl : _ = ((43 : Nat) : Int)) | exact (rfl : _ = ((44 : Nat) : Int)) | exact (rfl : _ = ((45 : Nat) : Int)) | exact (rfl : _ = ((46 : Nat) : Int)) | exact (rfl : _ = ((47 : Nat) : Int)) | exact (rfl : _ = ((48 : Nat) : Int)) | exact (rfl : _ = ((49 : Nat) : Int)) | exact (rfl : _ = ((50 : Nat) : Int)) | exact (rfl : _ = ((51 : Nat) : Int)) | exact (rfl : _ = ((52 : Nat) : Int)) | exact (rfl : _ = ((53 : Nat) : Int)) | exact (rfl : _ = ((54 : Nat) : Int)) | exact (rfl : _ = ((55 : Nat) : Int)) | exact (rfl : _ = ((56 : Nat) : Int)) | exact (rfl : _ = ((57 : Nat) : Int)) | exact (rfl : _ = ((58 : Nat) : Int)) | exact (rfl : _ = ((59 : Nat) : Int)) | exact (rfl : _ = ((60 : Nat) : Int)) | exact (rfl : _ = ((61 : Nat) : Int)) | exact (rfl : _ = ((62 : Nat) : Int)) | exact (rfl : _ = ((63 : Nat) : Int)) | exact (rfl : _ = ((64 : Nat) : Int)) | exact (rfl : _ = ((128 : Nat) : Int)) | exact (rfl : _ = ((256 : Nat) : Int))); decide; exact rfl) | (apply PV.remN; exact rfl; exact rfl; (first | exact (rfl : _ = ((0 : Nat) : Int)) | exact (rfl : _ = ((1 : Nat) : Int)) | exact (rfl : _ = ((2 : Nat) : Int)) | exact (rfl : _ = ((3 : Nat) : Int)) | exact (rfl : _ = ((4 : Nat) : Int)) | exact (rfl : _ = ((5 : Nat) : Int)) | exact (rfl : _ = ((6 : Nat) : Int)) | exact (rfl : _ = ((7 : Nat) : Int)) | exact (rfl : _ = ((8 : Nat) : Int)) | exact (rfl : _ = ((9 : Nat) : Int)) | exact (rfl : _ = ((10 : Nat) : Int)) | exact (rfl : _ = ((11 : Nat) : Int)) | exact (rfl : _ = ((12 : Nat) : Int)) | exact (rfl : _ = ((13 : Nat) : Int)) | exact (rfl : _ = ((14 : Nat) : Int)) | exact (rfl : _ = ((15 : Nat) : Int)) | exact (rfl : _ = ((16 : Nat) : Int)) | exact (rfl : _ = ((17 : Nat) : Int)) | exact (rfl : _ = ((18 : Nat) : Int)) | exact (rfl : _ = ((19 : Nat) : Int)) | exact (rfl : _ = ((20 : Nat) : Int)) | exact (rfl : _ = ((21 : Nat) : Int)) | exact (rfl : _ = ((22 : Nat) : Int)) | exact (rfl : _ = ((23 : Nat) : Int)) | exact (rfl : _ = ((24 : Nat) : Int)) | exact (rfl : _ = ((25 : Nat) : Int)) | exact (rfl : _ = ((26 : Nat) : Int)) | exact (rfl : _ = ((27 : Nat) : Int)) | exact (rfl : _ = ((28 : Nat) : Int)) | exact (rfl : _ = ((29 : Nat) : Int)) | exact (rfl : _ = ((30 : Nat) : Int)) | exact (rfl : _ = ((31 : Nat) : Int)) | exact (rfl : _ = ((32 : Nat) : Int)) | exact (rfl : _ = ((33 : Nat) : Int)) | exact (rfl : _ = ((34 : Nat) : Int)) | exact (rfl : _ = ((35 : Nat) : Int)) | exact (rfl : _ = ((36 : Nat) : Int)) | exact (rfl : _ = ((37 : Nat) : Int)) | exact (rfl : _ = ((38 : Nat) : Int)) | exact (rfl : _ = ((39 : Nat) : Int)) | exact (rfl : _ = ((40 : Nat) : Int)) | exact (rfl : _ = ((41 : Nat) : Int)) | exact (rfl : _ = ((42 : Nat) : Int)) | exact (rfl : _ = ((43 : Nat) : Int)) | exact (rfl : _ = ((44 : Nat) : Int)) | exact (rfl : _ = ((45 : Nat) : Int)) | exact (rfl : _ = ((46 : Nat) : Int)) | exact (rfl : _ = ((47 : Nat) : Int)) | exact (rfl : _ = ((48 : Nat) : Int)) | exact (rfl : _ = ((49 : Nat) : Int)) | exact (rfl : _ = ((50 : Nat) : Int)) | exact (rfl : _ = ((51 : Nat) : Int)) | exact (rfl : _ = ((52 : Nat) : Int)) | exact (rfl : _ = ((53 : Nat) : Int)) | exact (rfl : _ = ((54 : Nat) : Int)) | exact (rfl : _ = ((55 : Nat) : Int)) | exact (rfl : _ = ((56 : Nat) : Int)) | exact (rfl : _ = ((57 : Nat) : Int)) | exact (rfl : _ = ((58 : Nat) : Int)) | exact (rfl : _ = ((59 : Nat) : Int)) | exact (rfl : _ = ((60 : Nat) : Int)) | exact (rfl : _ = ((61 : Nat) : Int)) | exact (rfl : _ = ((62 : Nat) : Int)) | exact (rfl : _ = ((63 : Nat) : Int)) | exact (rfl : _ = ((64 : Nat) : Int)) | exact (rfl : _ = ((128 : Nat) : Int)) | exact (rfl : _ = ((256 : Nat) : Int))); decide) | (apply PV.rem; exact rfl; exact rfl; decide) | (apply PV.quo; exact rfl; exact rfl; decide) | (apply PV.min3; exact rfl; exact rfl; exact rfl) | (apply PV.min2; exact rfl; exact rfl) | (apply PV.max2; exact rfl; exact rfl) | (apply PV.eqS; exact rfl; exact rfl) | (apply PV.neS; exact rfl; exact rfl) | (apply PV.eqStr; exact rfl; exact rfl) | (apply PV.neStr; exact rfl; exact rfl) | (apply PV.neg; exact rfl) | (apply PV.eqMap; exact rfl; exact tb rfl; exact rfl) | (apply PV.neMap; exact rfl; exact tb rfl; exact rfl) | (apply PV.convBS; exact rfl; exact tb rfl; exact rfl; exact tb rfl; exact rfl; exact tb rfl; exact rfl; (first | (focus ((repeat (first | assumption | apply has_tls)); done)) | exact has_bs 0 rfl | exact has_bs 1 rfl | exact has_bs 2 rfl | exact has_bs 3 rfl | exact has_bs 4 rfl | exact has_bs 5 rfl | exact has_src_row 0 rfl rfl | exact has_src_row 1 rfl rfl | exact has_src_row 2 rfl rfl | exact has_src_row 3 rfl rfl | exact has_srcnil _ _)) | (apply PV.indexAddr; exact rfl; exact rfl; exact tb rfl; exact rfl; exact tb rfl; omega; omega; (first | (simp only [Int.toNat_natCast, Nat.mul_one, Nat.zero_add]; exact rfl) | exact rfl)) | (apply PV.indexAddrArr; exact rfl; exact rfl; exact tb rfl; exact rfl; exact tb rfl; omega; omega; (first | (simp only [Int.toNat_natCast, Nat.mul_one, Nat.zero_add]; exact rfl) | exact rfl)) | (apply PV.indexArr; exact rfl; exact rfl; exact tb rfl; exact rfl; exact tb rfl; exact rfl; exact rfl; omega; assumption)))); exact h_.out) : p := h ⟨k⟩ at_

end Go.Proofs.Ytndmjpceocecdaa.E

/- MY OWN LAYER: stores of structs into what one owns. P is a variable. -/
namespace Go.Proofs.Ytndmjpceocecdaa.E
open Go Go.RowKit
section
variable {cx : Cx} {ops : Array Oper} {K : Act → World → Prop} {rest : List Oper} {ρ : Env} {ds : List Deferred} {Γ : List HP} {ty : TypeId} {pos : String} {after : Array Edge}
/-- A struct is stored into memory that an assertion at place i owns. -/
theorem TL.storeAggIn {t e : TypeId} {x y : Operand} {b o : Nat} {vs : List Value} {r : TR} {H H' : HP} (i : Nat) (hi : Γ[i]? = some H) (ea : ev ρ x = .pointer (some ⟨b, o, none⟩)) (eb : ev ρ y = .agg vs.toArray) (h1 : allOne vs = true) (ht : TabOk cx.P t r) (hn : (vs.length == r.size) = true)
    (hH : ∀ m, H m → ∃ (l : List Value) (F : HP), sep (row b l e) F m ∧ o + vs.length ≤ l.length ∧ ∀ m', sep (row b (l.take o ++ vs ++ l.drop (o + vs.length)) e) F m' → H' m')
    (h : TL cx ops K rest ρ ds (Γ.set i H')) : TL cx ops K (⟨none, .store t x y, ty, pos, after, none⟩ :: rest) ρ ds Γ := by
  intro a w hr hs
  obtain ⟨⟨l, F⟩, ⟨ho, hF⟩, hs1⟩ := hs.at hi (X := List Value × HP) (φ := fun p => o + vs.length ≤ p.1.length ∧ ∀ m', sep (row b (p.1.take o ++ vs ++ p.1.drop (o + vs.length)) e) p.2 m' → H' m') (K := fun p => sep (row b p.1 e) p.2) (fun m hm => by
    obtain ⟨l, F, h2, h3, h4⟩ := hH m hm
    exact ⟨(l, F), ⟨h3, h4⟩, h2⟩)
  have hi2 : (Γ.set i (sep (row b l e) F))[i]? = some (sep (row b l e) F) := by
    have := (List.getElem?_eq_some_iff.1 hi).1
    simp [this]
  have hs2 : Sat cx.E (row b l e :: F :: Γ.eraseIdx i) w := hs1.imp fun m hm => by
    have := all_front hi2 hm
    rw [List.eraseIdx_set_eq] at this
    exact sep_assoc this
  refine TL.storeAgg (Γ := row b l e :: F :: Γ.eraseIdx i) (pos := pos) (ty := ty) (after := after) 0 rfl ea eb (by simpa [allOne] using h1) ht (by simpa using hn) ho ?_ a w hr hs2
  refine TL.imp (fun m hm => ?_) h
  refine all_perm (perm_set H' hi).symm ?_
  exact sep_mono (sep_assoc' hm) hF (fun _ => id)
/-- The j-th struct of a slice of one's own is put anew. -/
theorem TL.storeOwnA {t e : TypeId} {x y : Operand} {b o' c n sz : Nat} {vs cs cs' : List Value} {r : TR} {Δ : List HP} (i j : Nat) (hi : Γ[i]? = some (own e sz (.slice (some ⟨b, 0, none⟩) n c) n cs)) (ea : ev ρ x = .pointer (some ⟨b, o', none⟩)) (eb : ev ρ y = .agg vs.toArray) (h1 : allOne vs = true) (ht : TabOk cx.P t r) (hn : (vs.length == r.size) = true)
    (hsz : vs.length = sz) (ho : o' = j * sz) (hj : j < n) (hcs : cs.take (j * sz) ++ vs ++ cs.drop (j * sz + sz) = cs') (hΔ : Γ.set i (own e sz (.slice (some ⟨b, 0, none⟩) n c) n cs') = Δ) (h : TL cx ops K rest ρ ds Δ) : TL cx ops K (⟨none, .store t x y, ty, pos, after, none⟩ :: rest) ρ ds Γ := by
  subst hcs; subst hΔ; subst ho
  refine TL.storeAggIn (e := e) i hi ea eb h1 ht hn (fun m hm => ?_) h
  obtain ⟨hcl, ⟨hv, _⟩ | ⟨g, cap, cur, hv, hnc, hcap, hl, htk, hrow⟩⟩ := hm
  · cases hv
  · injection hv with hv1 _ hv2
    injection hv1 with hv1
    injection hv1 with hv1 _
    subst hv1; subst hv2
    have hb : j * sz + sz ≤ n * sz := by
      have := Nat.mul_le_mul_right sz (Nat.succ_le_of_lt hj)
      rw [Nat.succ_mul] at this; exact this
    have hb2 : n * sz ≤ cur.length := by rw [hl]; exact Nat.mul_le_mul_right _ hnc
    have hl2 : sz ≤ cur.length := by omega
    generalize j * sz = a at hb ⊢
    refine ⟨cur, emp, sep_emp hrow, by rw [hsz]; omega, fun m' hm' => ⟨by rw [List.length_append, List.length_append, List.length_take, List.length_drop, hcl, hsz]; omega, .inr ⟨b, c, cur.take a ++ vs ++ cur.drop (a + sz), rfl, hnc, hcap, by rw [List.length_append, List.length_append, List.length_take, List.length_drop, hsz]; omega, ?_, ?_⟩⟩⟩
    · have h2 : (cur.take a ++ vs).length = a + sz := by rw [List.length_append, List.length_take, hsz]; omega
      rw [← htk, List.take_append, h2, List.take_of_length_le (by rw [h2]; exact hb), List.take_take, Nat.min_eq_left (by omega), List.drop_take]
    · have := sep_of_emp hm'
      rw [hsz] at this
      exact this
end
end Go.Proofs.Ytndmjpceocecdaa.E

/- Atoms, clauses, facts in memory; may_t, Vars (taken from the Atoms texts). -/
namespace Go.Proofs.Ytndmjpceocecdaa.E
open Go Go.RowKit Go.Proofs
attribute [local irreducible] TK TL TQ TA Fn PV
theorem has_el {α : Type} {f : α → List Value} {sz : Nat} (hf : ∀ a, (f a).length = sz) (hz : 0 < sz) {Γ : List HP} {b o n : Nat} {l : List α} {i : Nat} {x : α} (h : has Γ (srcAt sz (some ⟨b, o, none⟩) n (l.flatMap f))) (hi : l[i]? = some x) : has Γ (fun m => cellsAt m b (o + i * sz) (f x)) := fun m hm j v hj => by
  obtain ⟨_, h2⟩ := h m hm
  have hjl : j < sz := by rw [← hf x]; exact (List.getElem?_eq_some_iff.1 hj).1
  have hd : (l.flatMap f).drop (i * sz) = f x ++ (l.drop (i + 1)).flatMap f := by
    rw [← flat_drop hf, List.drop_eq_getElem_cons (List.getElem?_eq_some_iff.1 hi).1, List.flatMap_cons]
    rw [show l[i]'(List.getElem?_eq_some_iff.1 hi).1 = x from (List.getElem?_eq_some_iff.1 hi).2]
  have hg : (l.flatMap f)[i * sz + j]? = some v := by
    rw [← List.getElem?_drop, hd, List.getElem?_append_left (by rw [hf]; exact hjl)]
    exact hj
  rcases h2 with h2 | ⟨b', o', e, h2⟩
  · rw [h2] at hg; simp at hg
  · injection e with e
    injection e with e1 e2 _
    subst e1; subst e2
    have := h2 _ _ hg
    rwa [Nat.add_assoc]
theorem has_cell {Γ : List HP} {b o : Nat} {vs : List Value} (h : has Γ (fun m => cellsAt m b o vs)) (j : Nat) {v : Value} (hv : vs[j]? = some v) : has Γ (fun m => cellAt m b (o + j) v) := has_imp h fun _ hm => hm j v hv
theorem src_some0 {sz n : Nat} {A : Option Addr} {l : List Value} {Γ : List HP} (h : has Γ (srcAt sz A n l)) (hl : 0 < l.length) : ∀ m, all Γ m → ∃ b o, A = some ⟨b, o, none⟩ := fun m hm => src_some (h m hm) hl
/-! ### terms -/
structure Tm where
  v : Bool
  n : Nat
  deriving DecidableEq
def tmC (t : Tm) : List Value := [.bool t.v, .int .u32 (t.n : Int)]
theorem tmC_len (t : Tm) : (tmC t).length = 2 := rfl
abbrev tmsC (l : List Tm) : List Value := l.flatMap tmC
theorem tmsC_len (l : List Tm) : (tmsC l).length = l.length * 2 := by
  induction l with
  | nil => rfl
  | cons t l ih => rw [tmsC, List.flatMap_cons, List.length_append]; show 2 + (tmsC l).length = _; rw [ih, List.length_cons]; omega
theorem tm_eq (x y : Tm) : (x.v == y.v && ((x.n : Int) == (y.n : Int) && true)) = decide (x = y) := by
  by_cases h : x = y
  · subst h; simp
  · rw [decide_eq_false h]
    obtain ⟨a, b⟩ := x
    obtain ⟨c, d⟩ := y
    by_cases h1 : a = c
    · subst h1
      have h2 : b ≠ d := fun e => h (by rw [e])
      simp
      omega
    · simp [h1]
/-! ### atoms, literals, clauses, facts -/
structure Atm where
  p : Nat
  A : Option Addr
  c : Nat
  l : List Tm
def Atm.cells (a : Atm) : List Value := [.int .u32 (a.p : Int), .slice a.A a.l.length a.c]
def Atm.ok (a : Atm) (Γ : List HP) : Prop := has Γ (srcAt 2 a.A a.l.length (tmsC a.l)) ∧ a.l.length ≤ a.c
theorem Atm.ok_tl {a : Atm} {Γ : List HP} {H : HP} (h : a.ok Γ) : a.ok (H :: Γ) := ⟨has_tls h.1, h.2⟩
structure Lt where
  no : Bool
  a : Atm
def Lt.cells (x : Lt) : List Value := .bool x.no :: x.a.cells
abbrev ltsC (l : List Lt) : List Value := l.flatMap Lt.cells
theorem ltC_len (x : Lt) : x.cells.length = 3 := rfl
theorem ltsC_len (l : List Lt) : (ltsC l).length = l.length * 3 := by
  induction l with
  | nil => rfl
  | cons t l ih => rw [ltsC, List.flatMap_cons, List.length_append]; show 3 + (ltsC l).length = _; rw [ih, List.length_cons]; omega
structure Cl where
  h : Atm
  A : Option Addr
  c : Nat
  l : List Lt
def Cl.cells (c : Cl) : List Value := [.int .u32 (c.h.p : Int), .slice c.h.A c.h.l.length c.h.c, .slice c.A c.l.length c.c]
def Cl.ok (c : Cl) (Γ : List HP) : Prop := c.h.ok Γ ∧ has Γ (srcAt 3 c.A c.l.length (ltsC c.l)) ∧ c.l.length ≤ c.c ∧ ∀ x ∈ c.l, x.a.ok Γ
theorem Cl.ok_tl {a : Cl} {Γ : List HP} {H : HP} (h : a.ok Γ) : a.ok (H :: Γ) := ⟨Atm.ok_tl h.1, has_tls h.2.1, h.2.2.1, fun x hx => Atm.ok_tl (h.2.2.2 x hx)⟩
/-! ### what may be -/
def badT (t : Tm) : Bool := t.v && decide (16 ≤ t.n)
def mayA (l : List Tm) : Bool := decide (l.length ≤ 6) && !(l.any badT)
def mayC (c : Cl) : Bool := decide (c.l.length ≤ 8) && mayA c.h.l && !(c.l.any fun x => !mayA x.a.l)
def bigC (c : Cl) : Bool := decide (100 < c.l.length) || decide (100 < c.h.l.length) || c.l.any fun x => decide (100 < x.a.l.length)
def sameA (a b : Atm) : Bool := decide (a.p = b.p) && decide (a.l = b.l)
def sameLs : List Lt → List Lt → Bool
  | [], [] => true
  | x :: l, y :: m => (x.no == y.no && sameA x.a y.a) && sameLs l m
  | _, _ => false
def sameC (a b : Cl) : Bool := sameA a.h b.h && sameLs a.l b.l
theorem sameA_self (a : Atm) : sameA a a = true := by simp [sameA]
theorem sameA_comm (a b : Atm) : sameA a b = sameA b a := by
  unfold sameA
  rw [show decide (a.p = b.p) = decide (b.p = a.p) from decide_eq_decide.2 ⟨Eq.symm, Eq.symm⟩, show decide (a.l = b.l) = decide (b.l = a.l) from decide_eq_decide.2 ⟨Eq.symm, Eq.symm⟩]
theorem sameLs_self : ∀ l : List Lt, sameLs l l = true
  | [] => rfl
  | x :: l => by simp [sameLs, sameA_self, sameLs_self l]
theorem sameLs_comm : ∀ l m : List Lt, sameLs l m = sameLs m l
  | [], [] => rfl
  | [], _ :: _ => rfl
  | _ :: _, [] => rfl
  | x :: l, y :: m => by
    simp only [sameLs]
    rw [sameA_comm, sameLs_comm l m]
    cases x.no <;> cases y.no <;> rfl
theorem sameC_self (a : Cl) : sameC a a = true := by simp [sameC, sameA_self, sameLs_self]
theorem sameC_comm (a b : Cl) : sameC a b = sameC b a := by unfold sameC; rw [sameA_comm, sameLs_comm]
theorem sameLs_len : ∀ {l m : List Lt}, sameLs l m = true → l.length = m.length
  | [], [], _ => rfl
  | [], _ :: _, h => by cases h
  | _ :: _, [], h => by cases h
  | x :: l, y :: m, h => by
    simp only [sameLs, Bool.and_eq_true] at h
    rw [List.length_cons, List.length_cons, sameLs_len h.2]
set_option maxRecDepth 100000 in
set_option maxHeartbeats 1000000 in
theorem indexF_tm (F : FuncId) (p : Tm → Bool) (A : Option Addr) (c : Nat) (l : List Tm) (Γ : List HP) (hc : Callable Try.prog F) (hs : has Γ (srcAt 2 A l.length (l.flatMap tmC))) (hn : l.length ≤ 1000000)
    (hF : ∀ x ∈ l, FnV Try.prog F [.agg (tmC x).toArray] Γ fun v Γ' => v = .bool (p x) ∧ Γ' = Γ) :
    FnV Try.prog 92 [.slice A l.length c, .func (.func F) #[] #[]] Γ fun v Γ' => (∃ i : Int, v = .int .i64 i ∧ decide (0 ≤ i) = l.any p) ∧ Γ' = Γ := by
  refine Fn.enter Try.func92 rfl rfl rfl fun E => ?_
  refine m_run ?_
  apply TK.iter (fun j ρ' Γ' => ∃ i : Nat, i + j = l.length ∧ (l.take i).any p = false ∧ lk ρ' 0 = .slice A l.length c ∧ lk ρ' 1 = .func (.func F) #[] #[] ∧ lk ρ' 7 = .int .i64 (l.length : Int) ∧ lk ρ' 8 = .int .i64 (i : Int) ∧ Γ' = Γ) l.length
  · exact ⟨0, Nat.zero_add _, by simp, rfl, rfl, rfl, rfl, rfl⟩
  rintro j IH ρ' Γ ⟨i, hij, hno, e0, e1, e7, e8, rfl⟩
  refine TK.know4 e0 e1 e7 e8 ?_
  by_cases hi : i < l.length
  · obtain ⟨x, hx⟩ : ∃ x, l[i]? = some x := ⟨l[i], List.getElem?_eq_getElem hi⟩
    refine TK.mem fun m0 hm0 => ?_
    obtain ⟨b, o, rfl⟩ := src_some (hs m0 hm0) (by rw [tmsC_len]; omega)
    clear hm0 m0
    have hel := has_el (f := tmC) (fun _ => rfl) (by decide) hs hx
    refine m_run ?_
    (apply TL.callFV (fs := []) (cs := []); exact rfl; exact rfl; exact hc; exact rfl; exact fun _ h => h)
    exact hF x (List.mem_of_getElem? hx)
    rintro _ _ ⟨rfl, rfl⟩
    cases hp : p x with
    | true =>
      refine m_run ?_
      (apply TK.ret1; exact rfl; exact rfl; (exact m_val))
      refine ⟨_, rfl, ⟨_, rfl, ?_⟩, rfl⟩
      rw [decide_eq_true (by omega)]
      exact (List.any_eq_true.2 ⟨x, List.mem_of_getElem? hx, hp⟩).symm
    | false =>
      refine m_run ?_
      refine IH (j - 1) _ _ (by omega) ⟨i + 1, by omega, ?_, rfl, rfl, rfl, congrArg (Value.int .i64) (i64_succ i (by omega)), rfl⟩
      rw [List.take_add_one, hx, List.any_append, hno]
      simp [hp]
  obtain rfl : i = l.length := by omega
  rw [List.take_length] at hno
  refine m_run ?_
  (apply TK.ret1; exact rfl; exact rfl; (exact m_val))
  exact ⟨_, rfl, ⟨_, rfl, hno.symm⟩, rfl⟩
theorem containsF_tm (F : FuncId) (p : Tm → Bool) (A : Option Addr) (c : Nat) (l : List Tm) (Γ : List HP) (hc : Callable Try.prog F) (hs : has Γ (srcAt 2 A l.length (l.flatMap tmC))) (hn : l.length ≤ 1000000)
    (hF : ∀ x ∈ l, FnV Try.prog F [.agg (tmC x).toArray] Γ fun v Γ' => v = .bool (p x) ∧ Γ' = Γ) :
    FnV Try.prog 79 [.slice A l.length c, .func (.func F) #[] #[]] Γ fun v Γ' => v = .bool (l.any p) ∧ Γ' = Γ := by
  refine Fn.enter Try.func79 rfl rfl rfl fun E => ?_
  refine m_run ?_
  (apply TL.callV; exact rfl; exact callB_of (by kernel_rfl); exact rfl; exact fun _ h => h)
  exact indexF_tm F p A c l Γ hc hs hn hF
  rintro _ _ ⟨⟨i, rfl, hi⟩, rfl⟩
  refine m_run ?_
  (apply TK.ret1; exact rfl; exact rfl; exact rfl)
  exact ⟨_, rfl, congrArg Value.bool hi, rfl⟩
set_option maxRecDepth 100000 in
set_option maxHeartbeats 1000000 in
theorem indexF_lt (F : FuncId) (p : Lt → Bool) (A : Option Addr) (c : Nat) (l : List Lt) (Γ : List HP) (hc : Callable Try.prog F) (hs : has Γ (srcAt 3 A l.length (l.flatMap Lt.cells))) (hn : l.length ≤ 1000000)
    (hF : ∀ x ∈ l, FnV Try.prog F [.agg (Lt.cells x).toArray] Γ fun v Γ' => v = .bool (p x) ∧ Γ' = Γ) :
    FnV Try.prog 81 [.slice A l.length c, .func (.func F) #[] #[]] Γ fun v Γ' => (∃ i : Int, v = .int .i64 i ∧ decide (0 ≤ i) = l.any p) ∧ Γ' = Γ := by
  refine Fn.enter Try.func81 rfl rfl rfl fun E => ?_
  refine m_run ?_
  apply TK.iter (fun j ρ' Γ' => ∃ i : Nat, i + j = l.length ∧ (l.take i).any p = false ∧ lk ρ' 0 = .slice A l.length c ∧ lk ρ' 1 = .func (.func F) #[] #[] ∧ lk ρ' 7 = .int .i64 (l.length : Int) ∧ lk ρ' 8 = .int .i64 (i : Int) ∧ Γ' = Γ) l.length
  · exact ⟨0, Nat.zero_add _, by simp, rfl, rfl, rfl, rfl, rfl⟩
  rintro j IH ρ' Γ ⟨i, hij, hno, e0, e1, e7, e8, rfl⟩
  refine TK.know4 e0 e1 e7 e8 ?_
  by_cases hi : i < l.length
  · obtain ⟨x, hx⟩ : ∃ x, l[i]? = some x := ⟨l[i], List.getElem?_eq_getElem hi⟩
    refine TK.mem fun m0 hm0 => ?_
    obtain ⟨b, o, rfl⟩ := src_some (hs m0 hm0) (by rw [ltsC_len]; omega)
    clear hm0 m0
    have hel := has_el (f := Lt.cells) (fun _ => rfl) (by decide) hs hx
    refine m_run ?_
    (apply TL.callFV (fs := []) (cs := []); exact rfl; exact rfl; exact hc; exact rfl; exact fun _ h => h)
    exact hF x (List.mem_of_getElem? hx)
    rintro _ _ ⟨rfl, rfl⟩
    cases hp : p x with
    | true =>
      refine m_run ?_
      (apply TK.ret1; exact rfl; exact rfl; (exact m_val))
      refine ⟨_, rfl, ⟨_, rfl, ?_⟩, rfl⟩
      rw [decide_eq_true (by omega)]
      exact (List.any_eq_true.2 ⟨x, List.mem_of_getElem? hx, hp⟩).symm
    | false =>
      refine m_run ?_
      refine IH (j - 1) _ _ (by omega) ⟨i + 1, by omega, ?_, rfl, rfl, rfl, congrArg (Value.int .i64) (i64_succ i (by omega)), rfl⟩
      rw [List.take_add_one, hx, List.any_append, hno]
      simp [hp]
  obtain rfl : i = l.length := by omega
  rw [List.take_length] at hno
  refine m_run ?_
  (apply TK.ret1; exact rfl; exact rfl; (exact m_val))
  exact ⟨_, rfl, ⟨_, rfl, hno.symm⟩, rfl⟩
theorem containsF_lt (F : FuncId) (p : Lt → Bool) (A : Option Addr) (c : Nat) (l : List Lt) (Γ : List HP) (hc : Callable Try.prog F) (hs : has Γ (srcAt 3 A l.length (l.flatMap Lt.cells))) (hn : l.length ≤ 1000000)
    (hF : ∀ x ∈ l, FnV Try.prog F [.agg (Lt.cells x).toArray] Γ fun v Γ' => v = .bool (p x) ∧ Γ' = Γ) :
    FnV Try.prog 61 [.slice A l.length c, .func (.func F) #[] #[]] Γ fun v Γ' => v = .bool (l.any p) ∧ Γ' = Γ := by
  refine Fn.enter Try.func61 rfl rfl rfl fun E => ?_
  refine m_run ?_
  (apply TL.callV; exact rfl; exact callB_of (by kernel_rfl); exact rfl; exact fun _ h => h)
  exact indexF_lt F p A c l Γ hc hs hn hF
  rintro _ _ ⟨⟨i, rfl, hi⟩, rfl⟩
  refine m_run ?_
  (apply TK.ret1; exact rfl; exact rfl; exact rfl)
  exact ⟨_, rfl, congrArg Value.bool hi, rfl⟩
theorem bad_t (t : Tm) (Γ : List HP) : FnV Try.prog 80 [.agg (tmC t).toArray] Γ fun v Γ' => v = .bool (badT t) ∧ Γ' = Γ := by
  refine Fn.enter Try.func80 rfl rfl rfl fun E => ?_
  obtain ⟨v, n⟩ := t
  refine m_run ?_
  (apply TL.box; exact rfl; exact rfl; (exact m_lst))
  intro b1
  cases v with
  | false =>
    refine m_run ?_
    (apply TK.retS1; exact rfl; exact rfl; (exact m_val))
    · exact ⟨_, rfl, rfl, rfl⟩
    · (repeat (first | exact List.Sublist.refl _ | apply List.Sublist.cons_cons | apply List.Sublist.cons))
  | true =>
    refine m_run ?_
    (apply TK.retS1; exact rfl; exact rfl; (exact m_val))
    · exact ⟨_, rfl, congrArg Value.bool (by simp only [badT, Bool.true_and]; exact decide_eq_decide.2 (by omega)), rfl⟩
    · (repeat (first | exact List.Sublist.refl _ | apply List.Sublist.cons_cons | apply List.Sublist.cons))
theorem mayAtom_t (a : Atm) (Γ : List HP) (h : a.ok Γ) (hn : a.l.length ≤ 1000000) : FnV Try.prog 60 [.agg a.cells.toArray] Γ fun v Γ' => v = .bool (mayA a.l) ∧ Γ' = Γ := by
  refine Fn.enter Try.func60 rfl rfl rfl fun E => ?_
  refine m_run ?_
  (apply TL.box; exact rfl; exact rfl; (exact m_lst))
  intro b1
  by_cases h6 : a.l.length ≤ 6
  · refine m_run ?_
    (apply TL.callV; exact rfl; exact callB_of (by kernel_rfl); exact rfl; exact fun _ h => h)
    exact containsF_tm _ badT a.A a.c a.l _ (callB_of (by kernel_rfl)) (has_tls h.1) hn fun x _ => bad_t x _
    rintro _ _ ⟨rfl, rfl⟩
    refine m_run ?_
    (apply TK.retS1; exact rfl; exact rfl; (exact m_val))
    · exact ⟨_, rfl, congrArg Value.bool (by simp [mayA, h6]), rfl⟩
    · (repeat (first | exact List.Sublist.refl _ | apply List.Sublist.cons_cons | apply List.Sublist.cons))
  · refine m_run ?_
    (apply TK.retS1; exact rfl; exact rfl; (exact m_val))
    · exact ⟨_, rfl, congrArg Value.bool (by simp [mayA, h6]), rfl⟩
    · (repeat (first | exact List.Sublist.refl _ | apply List.Sublist.cons_cons | apply List.Sublist.cons))
theorem mayLit_t (x : Lt) (Γ : List HP) (h : x.a.ok Γ) (hn : x.a.l.length ≤ 1000000) : FnV Try.prog 62 [.agg x.cells.toArray] Γ fun v Γ' => v = .bool (!mayA x.a.l) ∧ Γ' = Γ := by
  refine Fn.enter Try.func62 rfl rfl rfl fun E => ?_
  refine m_run ?_
  (apply TL.box; exact rfl; exact rfl; (exact m_lst))
  intro b1
  refine m_run ?_
  (apply TL.callV; exact rfl; exact callB_of (by kernel_rfl); exact rfl; exact fun _ h => h)
  exact mayAtom_t x.a _ (Atm.ok_tl h) hn
  rintro _ _ ⟨rfl, rfl⟩
  refine m_run ?_
  (apply TK.retS1; exact rfl; exact rfl; (exact m_val))
  · exact ⟨_, rfl, rfl, rfl⟩
  · (repeat (first | exact List.Sublist.refl _ | apply List.Sublist.cons_cons | apply List.Sublist.cons))
def Cl.small (c : Cl) : Prop := c.l.length ≤ 1000000 ∧ c.h.l.length ≤ 1000000 ∧ ∀ x ∈ c.l, x.a.l.length ≤ 1000000
theorem may_t (c : Cl) (Γ : List HP) (h : c.ok Γ) (hn : c.small) : FnV Try.prog 42 [.agg c.cells.toArray] Γ fun v Γ' => v = .bool (mayC c) ∧ Γ' = Γ := by
  refine Fn.enter Try.func42 rfl rfl rfl fun E => ?_
  refine m_run ?_
  (apply TL.box; exact rfl; exact rfl; (exact m_lst))
  intro b1
  by_cases h8 : c.l.length ≤ 8
  · refine m_run ?_
    (apply TL.callV; exact rfl; exact callB_of (by kernel_rfl); exact rfl; exact fun _ h => h)
    exact mayAtom_t c.h _ (Atm.ok_tl h.1) hn.2.1
    rintro _ _ ⟨rfl, rfl⟩
    cases hm : mayA c.h.l with
    | true =>
      refine m_run ?_
      (apply TL.callV; exact rfl; exact callB_of (by kernel_rfl); exact rfl; exact fun _ h => h)
      exact containsF_lt _ (fun x => !mayA x.a.l) c.A c.c c.l _ (callB_of (by kernel_rfl)) (has_tls h.2.1) hn.1 fun x hx => mayLit_t x _ (Atm.ok_tl (h.2.2.2 x hx)) (hn.2.2 x hx)
      rintro _ _ ⟨rfl, rfl⟩
      refine m_run ?_
      (apply TK.retS1; exact rfl; exact rfl; (exact m_val))
      · exact ⟨_, rfl, congrArg Value.bool (by simp [mayC, h8, hm]), rfl⟩
      · (repeat (first | exact List.Sublist.refl _ | apply List.Sublist.cons_cons | apply List.Sublist.cons))
    | false =>
      refine m_run ?_
      (apply TK.retS1; exact rfl; exact rfl; (exact m_val))
      · exact ⟨_, rfl, congrArg Value.bool (by simp [mayC, hm]), rfl⟩
      · (repeat (first | exact List.Sublist.refl _ | apply List.Sublist.cons_cons | apply List.Sublist.cons))
  · refine m_run ?_
    (apply TK.retS1; exact rfl; exact rfl; (exact m_val))
    · exact ⟨_, rfl, congrArg Value.bool (by simp [mayC, h8]), rfl⟩
    · (repeat (first | exact List.Sublist.refl _ | apply List.Sublist.cons_cons | apply List.Sublist.cons))
/-! ### the document's -/
set_option maxRecDepth 100000 in
set_option maxHeartbeats 1000000 in
theorem rmayAtom_t (a : Atm) (Γ : List HP) (h : a.ok Γ) (hn : a.l.length ≤ 1000000) : FnV Try.prog 66 [.agg a.cells.toArray] Γ fun v Γ' => v = .bool (mayA a.l) ∧ Γ' = Γ := by
  refine Fn.enter Try.func66 rfl rfl rfl fun E => ?_
  obtain ⟨p, A, c, l⟩ := a
  have hs0 : has Γ (srcAt 2 A l.length (tmsC l)) := h.1
  replace hn : l.length ≤ 1000000 := hn
  refine m_run ?_
  (apply TL.box; exact rfl; exact rfl; (exact m_lst))
  intro b1
  refine m_run ?_
  refine TK.imp (Δ := row b1 [.int .u32 (p : Int), .slice A l.length c] 33 :: Γ) (fun _ h => h) ?_
  apply TK.iter (fun j ρ' Γ' => ∃ i : Nat, i + j = l.length ∧ (l.take i).any badT = false ∧ lk ρ' 1 = .pointer (some ⟨b1, 0, none⟩) ∧ lk ρ' 3 = .int .i64 (i : Int) ∧ Γ' = row b1 [.int .u32 (p : Int), .slice A l.length c] 33 :: Γ) l.length
  · exact ⟨0, Nat.zero_add _, by simp, rfl, rfl, rfl⟩
  rintro j IH ρ' _ ⟨i, hij, hno, e1, e3, rfl⟩
  refine TK.know2 e1 e3 ?_
  by_cases hi : i < l.length
  · obtain ⟨x, hx⟩ : ∃ x, l[i]? = some x := ⟨l[i], List.getElem?_eq_getElem hi⟩
    refine TK.mem fun m0 hm0 => ?_
    obtain ⟨b, o, rfl⟩ := src_some (has_tls hs0 m0 hm0) (by rw [tmsC_len]; omega)
    clear hm0 m0
    have hel := has_el (f := tmC) (fun _ => rfl) (by decide) hs0 hx
    have hv := has_cell hel 0 (v := .bool x.v) rfl
    have hk := has_cell hel 1 (v := .int .u32 (x.n : Int)) rfl
    have hbad : badT x = true → mayA l = false := fun hb => by
      have : l.any badT = true := List.any_eq_true.2 ⟨x, List.mem_of_getElem? hx, hb⟩
      simp [mayA, this]
    have hgo : badT x = false → (l.take (i + 1)).any badT = false := fun hb => by
      rw [List.take_add_one, hx, List.any_append, hno]
      simp [hb]
    cases hxv : x.v with
    | false =>
      rw [hxv] at hv
      have hg := hgo (by simp [badT, hxv])
      refine m_run ?_
      exact IH (j - 1) _ _ (by omega) ⟨i + 1, by omega, hg, rfl, congrArg (Value.int .i64) (i64_succ i (by omega)), rfl⟩
    | true =>
      rw [hxv] at hv
      by_cases h16 : 16 ≤ x.n
      · have hb := hbad (by simp [badT, hxv, h16])
        refine m_run ?_
        (apply TK.retS1; exact rfl; exact rfl; (exact m_val))
        · exact ⟨_, rfl, congrArg Value.bool hb.symm, rfl⟩
        · (repeat (first | exact List.Sublist.refl _ | apply List.Sublist.cons_cons | apply List.Sublist.cons))
      · have hg := hgo (by simp [badT, hxv]; omega)
        refine m_run ?_
        exact IH (j - 1) _ _ (by omega) ⟨i + 1, by omega, hg, rfl, congrArg (Value.int .i64) (i64_succ i (by omega)), rfl⟩
  obtain rfl : i = l.length := by omega
  rw [List.take_length] at hno
  refine m_run ?_
  (apply TK.retS1; exact rfl; exact rfl; (exact m_val))
  · exact ⟨_, rfl, congrArg Value.bool (by simp only [mayA, hno, Bool.not_false, Bool.and_true]; exact decide_eq_decide.2 (by omega)), rfl⟩
  · (repeat (first | exact List.Sublist.refl _ | apply List.Sublist.cons_cons | apply List.Sublist.cons))
/-- What is known of a literal in a clause's body. -/
theorem has_lit {Γ : List HP} {b o n : Nat} {l : List Lt} {i : Nat} {x : Lt} (h : has Γ (srcAt 3 (some ⟨b, o, none⟩) n (ltsC l))) (hi : l[i]? = some x) :
    has Γ (fun m => cellsAt m b (o + i * 3) x.cells) ∧ has Γ (fun m => cellAt m b (o + i * 3 + 0) (.bool x.no)) ∧ has Γ (fun m => cellsAt m b (o + i * 3 + 1) x.a.cells) := by
  have hel := has_el (f := Lt.cells) (fun _ => rfl) (by decide) h hi
  refine ⟨hel, has_cell hel 0 rfl, has_imp hel fun _ hm j v hv => ?_⟩
  have := hm (j + 1) v hv
  rwa [Nat.add_comm j 1, ← Nat.add_assoc] at this
set_option maxRecDepth 100000 in
set_option maxHeartbeats 1000000 in
theorem rmay_t (c : Cl) (Γ : List HP) (h : c.ok Γ) (hn : c.small) : FnV Try.prog 45 [.agg c.cells.toArray] Γ fun v Γ' => v = .bool (mayC c) ∧ Γ' = Γ := by
  refine Fn.enter Try.func45 rfl rfl rfl fun E => ?_
  obtain ⟨⟨hp, hA, hc, hl⟩, A, c, l⟩ := c
  have hs0 : has Γ (srcAt 3 A l.length (ltsC l)) := h.2.1
  have hb0 : ∀ x ∈ l, x.a.ok Γ := h.2.2.2
  have hn1 : l.length ≤ 1000000 := hn.1
  have hn3 : ∀ x ∈ l, x.a.l.length ≤ 1000000 := hn.2.2
  refine m_run ?_
  (apply TL.box; exact rfl; exact rfl; (exact m_lst))
  intro b1
  refine m_run ?_
  refine TK.imp (Δ := row b1 [.int .u32 (hp : Int), .slice hA hl.length hc, .slice A l.length c] 36 :: Γ) (fun _ h => h) ?_
  apply TK.iter (fun j ρ' Γ' => ∃ i : Nat, i + j = l.length ∧ ((l.take i).any fun x => !mayA x.a.l) = false ∧ lk ρ' 1 = .pointer (some ⟨b1, 0, none⟩) ∧ lk ρ' 3 = .int .i64 (i : Int) ∧ Γ' = row b1 [.int .u32 (hp : Int), .slice hA hl.length hc, .slice A l.length c] 36 :: Γ) l.length
  · exact ⟨0, Nat.zero_add _, by simp, rfl, rfl, rfl⟩
  rintro j IH ρ' _ ⟨i, hij, hno, e1, e3, rfl⟩
  refine TK.know2 e1 e3 ?_
  by_cases hi : i < l.length
  · obtain ⟨x, hx⟩ : ∃ x, l[i]? = some x := ⟨l[i], List.getElem?_eq_getElem hi⟩
    have hxm := List.mem_of_getElem? hx
    refine TK.mem fun m0 hm0 => ?_
    obtain ⟨b, o, rfl⟩ := src_some (has_tls hs0 m0 hm0) (by rw [ltsC_len]; omega)
    clear hm0 m0
    obtain ⟨_, _, hat⟩ := has_lit hs0 hx
    refine m_run ?_
    (apply TL.callV; exact rfl; exact callB_of (by kernel_rfl); exact rfl; exact fun _ h => h)
    exact rmayAtom_t x.a _ (Atm.ok_tl (hb0 x hxm)) (hn3 x hxm)
    rintro _ _ ⟨rfl, rfl⟩
    cases hm : mayA x.a.l with
    | true =>
      refine m_run ?_
      refine IH (j - 1) _ _ (by omega) ⟨i + 1, by omega, ?_, rfl, congrArg (Value.int .i64) (i64_succ i (by omega)), rfl⟩
      rw [List.take_add_one, hx, List.any_append, hno]
      simp [hm]
    | false =>
      have : (l.any fun x => !mayA x.a.l) = true := List.any_eq_true.2 ⟨x, hxm, by simp [hm]⟩
      refine m_run ?_
      (apply TK.retS1; exact rfl; exact rfl; (exact m_val))
      · exact ⟨_, rfl, congrArg Value.bool (by simp [mayC, this]), rfl⟩
      · (repeat (first | exact List.Sublist.refl _ | apply List.Sublist.cons_cons | apply List.Sublist.cons))
  obtain rfl : i = l.length := by omega
  rw [List.take_length] at hno
  refine m_run ?_
  (apply TL.callV; exact rfl; exact callB_of (by kernel_rfl); exact rfl; exact fun _ h => h)
  exact rmayAtom_t ⟨hp, hA, hc, hl⟩ _ (Atm.ok_tl h.1) hn.2.1
  rintro _ _ ⟨rfl, rfl⟩
  cases hm : mayA hl with
  | true =>
    refine m_run ?_
    (apply TK.retS1; exact rfl; exact rfl; (exact m_val))
    · exact ⟨_, rfl, congrArg Value.bool (by simp only [mayC, hno, hm, Bool.not_false, Bool.and_true]; exact decide_eq_decide.2 (by omega)), rfl⟩
    · (repeat (first | exact List.Sublist.refl _ | apply List.Sublist.cons_cons | apply List.Sublist.cons))
  | false =>
    refine m_run ?_
    (apply TK.retS1; exact rfl; exact rfl; (exact m_val))
    · exact ⟨_, rfl, congrArg Value.bool (by simp [mayC, hm]), rfl⟩
    · (repeat (first | exact List.Sublist.refl _ | apply List.Sublist.cons_cons | apply List.Sublist.cons))
def u32s (l : List Nat) : List Value := l.map fun n : Nat => Value.int .u32 (n : Int)
theorem u32s_len (l : List Nat) : (u32s l).length = l.length := List.length_map ..
theorem u32s_one (l : List Nat) : ∀ u ∈ u32s l, u.oneCell' = true := by
  intro u hu
  obtain ⟨n, _, rfl⟩ := List.mem_map.1 hu
  rfl
theorem has_u32 {Γ : List HP} {b o n i x : Nat} {l : List Nat} (h : has Γ (srcAt 1 (some ⟨b, o, none⟩) n (u32s l))) (hi : l[i]? = some x) : has Γ (fun m => cellAt m b (o + i) (.int .u32 (x : Int))) := fun m hm => by
  obtain ⟨_, h2⟩ := h m hm
  have hg : (u32s l)[i]? = some (.int .u32 (x : Int)) := by rw [u32s, List.getElem?_map, hi]; rfl
  rcases h2 with h2 | ⟨b', o', e, h2⟩
  · rw [h2] at hg; simp at hg
  · injection e with e
    injection e with e1 e2 _
    subst e1; subst e2
    exact h2 _ _ hg
abbrev ownU (A : Option Addr) (c : Nat) (l : List Nat) : HP := own 30 1 (.slice A l.length c) l.length (u32s l)
theorem nanU_t (x : Int) (Γ : List HP) : FnV Try.prog 116 [.int .u32 x] Γ fun v Γ' => v = .bool false ∧ Γ' = Γ := by
  refine Fn.enter Try.func116 rfl rfl rfl fun E => ?_
  refine m_run ?_
  (apply TK.ret1; exact rfl; exact rfl; exact rfl)
  exact ⟨_, rfl, congrArg Value.bool (by simp), rfl⟩
theorem less_t (x y : Int) (Γ : List HP) : FnV Try.prog 103 [.int .u32 x, .int .u32 y] Γ fun v Γ' => v = .bool (decide (x < y)) ∧ Γ' = Γ := by
  refine Fn.enter Try.func103 rfl rfl rfl fun E => ?_
  refine m_run ?_
  (apply TL.callV; exact rfl; exact callB_of (by kernel_rfl); exact rfl; exact fun _ h => h)
  exact nanU_t x Γ
  rintro _ Γ ⟨rfl, rfl⟩
  refine m_run ?_
  (apply TK.ret1; exact rfl; exact rfl; exact rfl)
  exact ⟨_, rfl, rfl, rfl⟩
/-! ### insertion sort -/
theorem own_addr {e sz n c : Nat} {A : Option Addr} {cs : List Value} {Γ : List HP} {m : Mem} (hm : all (own e sz (.slice A n c) n cs :: Γ) m) (h0 : 0 < n) : ∃ b, A = some ⟨b, 0, none⟩ := by
  obtain ⟨m1, m2, _, _, h1, _⟩ := hm
  obtain ⟨_, ⟨_, h, _⟩ | ⟨g, cap, cur, hv, _⟩⟩ := h1
  · omega
  · injection hv with hv _ _
    exact ⟨g, hv⟩
theorem u32s_set (l : List Nat) (i x : Nat) : (u32s l).set i (.int .u32 (x : Int)) = u32s (l.set i x) := by
  unfold u32s
  rw [List.map_set]
/-! ### Compact -/
def compL : List Nat → List Nat
  | [] => []
  | x :: l => match l with
    | [] => [x]
    | y :: _ => if x = y then compL l else x :: compL l
theorem compL_ne : ∀ (l : List Nat) (x : Nat), compL (x :: l) ≠ []
  | [], _ => by simp [compL]
  | y :: l, x => by
    simp only [compL]
    split
    · exact compL_ne l y
    · simp
theorem compL_snoc : ∀ (l : List Nat) (x y : Nat), compL (l ++ [x, y]) = if x = y then compL (l ++ [x]) else compL (l ++ [x]) ++ [y]
  | [], x, y => by
    show compL [x, y] = _
    simp only [compL, List.nil_append]
    by_cases h : x = y
    · subst h; rw [if_pos rfl, if_pos rfl]
    · rw [if_neg h, if_neg h]; rfl
  | [a], x, y => by
    show compL (a :: x :: [y]) = if x = y then compL (a :: [x]) else compL (a :: [x]) ++ [y]
    have ih := compL_snoc [] x y
    rw [List.nil_append, List.nil_append] at ih
    have h1 : compL (a :: x :: [y]) = if a = x then compL [x, y] else a :: compL [x, y] := rfl
    have h2 : compL (a :: [x]) = if a = x then compL [x] else a :: compL [x] := rfl
    rw [h1, h2, ih]
    split <;> split <;> rfl
  | a :: b :: l, x, y => by
    have ih := compL_snoc (b :: l) x y
    have h1 : compL (a :: b :: l ++ [x, y]) = if a = b then compL (b :: l ++ [x, y]) else a :: compL (b :: l ++ [x, y]) := rfl
    have h2 : compL (a :: b :: l ++ [x]) = if a = b then compL (b :: l ++ [x]) else a :: compL (b :: l ++ [x]) := rfl
    rw [h1, h2, ih]
    split <;> split <;> rfl
theorem compL_len : ∀ l : List Nat, (compL l).length ≤ l.length
  | [] => Nat.le_refl _
  | [x] => Nat.le_refl _
  | x :: y :: l => by
    have ih := compL_len (y :: l)
    have h1 : compL (x :: y :: l) = if x = y then compL (y :: l) else x :: compL (y :: l) := rfl
    rw [h1]
    split
    · rw [List.length_cons]; omega
    · rw [List.length_cons, List.length_cons]; omega
theorem take_two {D : List Nat} {k x y : Nat} (hx : D[k - 1]? = some x) (hy : D[k]? = some y) (hk : 1 ≤ k) : D.take (k + 1) = D.take (k - 1) ++ [x, y] ∧ D.take k = D.take (k - 1) ++ [x] := by
  have h1 : D.take k = D.take (k - 1) ++ [x] := by
    obtain ⟨q, rfl⟩ : ∃ q, k = q + 1 := ⟨k - 1, by omega⟩
    rw [Nat.add_sub_cancel] at hx ⊢
    rw [List.take_add_one, hx]; rfl
  refine ⟨?_, h1⟩
  rw [List.take_add_one, hy, h1]
  simp
theorem own_cut {e n k c : Nat} {A : Option Addr} {cs : List Value} {m : Mem} (h : own e 1 (.slice A n c) n cs m) (hk : k ≤ n) (h0 : 0 < n) : own e 1 (.slice A k c) k (cs.take k) m := by
  obtain ⟨hl, ⟨_, hn, _⟩ | ⟨g, cap, cur, hv, hn, hcap, hcl, htk, hr⟩⟩ := h
  · omega
  · injection hv with h1 _ h2
    subst h1; subst h2
    rw [Nat.mul_one] at hl htk
    refine ⟨by simp; omega, .inr ⟨g, c, cur, rfl, by omega, hcap, hcl, ?_, hr⟩⟩
    rw [Nat.mul_one, ← htk, List.take_take, Nat.min_eq_left hk]
theorem own_cap {e sz n c : Nat} {A : Option Addr} {cs : List Value} {Γ : List HP} {m : Mem} (hm : all (own e sz (.slice A n c) n cs :: Γ) m) : n ≤ c := by
  obtain ⟨m1, m2, _, _, h1, _⟩ := hm
  exact (own_len h1).2
theorem ownU_cell {D L : List Nat} {b c q z : Nat} {Γ : List HP} (hq : L[q]? = some z) : has (own 30 1 (.slice (some ⟨b, 0, none⟩) D.length c) D.length (u32s L) :: Γ) (fun m => cellAt m b q (.int .u32 (z : Int))) := by
  have h1 : has (own 30 1 (.slice (some ⟨b, 0, none⟩) D.length c) D.length (u32s L) :: Γ) (srcAt 1 (some ⟨b, 0, none⟩) D.length (u32s L)) := has_at (up_src _ _ _ _) 0 rfl fun _ h => own_src h
  have h2 := has_u32 h1 hq
  rwa [Nat.zero_add] at h2
set_option maxRecDepth 100000 in
set_option maxHeartbeats 2000000 in
theorem compact_t (A : Option Addr) (c : Nat) (D : List Nat) (Γ : List HP) (hn : D.length ≤ 1000000) :
    FnV Try.prog 78 [.slice A D.length c] (own 30 1 (.slice A D.length c) D.length (u32s D) :: Γ)
      fun v Γ' => v = .slice A (compL D).length c ∧ Γ' = own 30 1 (.slice A (compL D).length c) (compL D).length (u32s (compL D)) :: Γ := by
  refine Fn.enter Try.func78 rfl rfl rfl fun E => ?_
  by_cases h2 : D.length < 2
  · have hD : compL D = D := by
      match D, h2 with
      | [], _ => rfl
      | [x], _ => rfl
    rw [hD]
    refine m_run ?_
    (apply TK.ret1; exact rfl; exact rfl; (exact m_val))
    exact ⟨_, rfl, rfl, rfl⟩
  refine m_run ?_
  refine TK.mem fun m0 hm0 => ?_
  obtain ⟨b, rfl⟩ := own_addr hm0 (by omega)
  have hcap := own_cap hm0
  clear hm0 m0
  apply TK.iter (fun j ρ' Γ' => ∃ k : Nat, k + j = D.length ∧ 1 ≤ k ∧ compL (D.take k) = D.take k ∧ lk ρ' 0 = .slice (some ⟨b, 0, none⟩) D.length c ∧ lk ρ' 3 = .int .i64 (k : Int) ∧ Γ' = own 30 1 (.slice (some ⟨b, 0, none⟩) D.length c) D.length (u32s D) :: Γ) (D.length - 1)
  · exact ⟨1, by omega, Nat.le_refl _, by
      match D, h2 with
      | x :: l, _ => rfl, rfl, rfl, rfl⟩
  rintro j IH ρ' _ ⟨k, hkj, hk1, hkk, e0, e3, rfl⟩
  refine TK.know2 e0 e3 ?_
  by_cases hk : k < D.length
  · obtain ⟨y, hy⟩ : ∃ y, D[k]? = some y := ⟨D[k], List.getElem?_eq_getElem hk⟩
    obtain ⟨x, hx⟩ : ∃ x, D[k - 1]? = some x := ⟨D[k - 1], List.getElem?_eq_getElem (by omega)⟩
    obtain ⟨ht1, ht2⟩ := take_two hx hy hk1
    have hsn := compL_snoc (D.take (k - 1)) x y
    rw [← ht1, ← ht2, hkk] at hsn
    have g1 : has (own 30 1 (.slice (some ⟨b, 0, none⟩) D.length c) D.length (u32s D) :: Γ) (fun m => cellAt m b k (.int .u32 (y : Int))) := ownU_cell hy
    have g2 : has (own 30 1 (.slice (some ⟨b, 0, none⟩) D.length c) D.length (u32s D) :: Γ) (fun m => cellAt m b (k - 1) (.int .u32 (x : Int))) := ownU_cell hx
    refine m_run ?_
    refine TK.drawS mixed rfl ?_
    refine m_take (At.mk : At 0) ?_; refine m_take (At.mk : At 1) ?_; refine m_take (At.mk : At 2) ?_; refine m_take (At.mk : At 3) ?_; refine m_take (At.mk : At 4) ?_; refine m_take (At.mk : At 5) ?_; refine m_take (At.mk : At 6) ?_
    refine TA.know (t := 22) (v := .int .i64 ((k - 1 : Nat) : Int)) (congrArg (Value.int .i64) (by rw [i64_in (by omega) (by omega)]; omega)) ?_
    refine m_take (At.mk : At 7) ?_; refine m_take (At.mk : At 8) ?_; refine m_take (At.mk : At 9) ?_
    by_cases hxy : x = y
    · refine TA.isT 25 rfl (beq_iff_eq.2 (by omega)) ?_
      refine TA.done (by kernel_rfl) ?_
      rw [if_pos hxy] at hsn
      clear IH
      refine m_run ?_
      have hck : c ≠ k := by omega
      (apply TL.pv; exact rfl; (apply PV.sliceS (i := k) (j := D.length); exact rfl; exact tb rfl; exact rfl; exact tb rfl; exact .some rfl; exact .none; exact Nat.le_of_lt hk; exact hcap))
      refine TL.know (t := 28) (v := .slice (some ⟨b, k, none⟩) (D.length - k) (c - k)) (congrArg (fun z => Value.slice z (D.length - k) (c - k)) (by
        rw [if_neg hck]
        show some (Addr.add _ _) = _
        rw [add_at, Nat.mul_one, Nat.zero_add])) ?_
      refine m_run ?_
      apply TK.iter (fun j ρ' Γ' => ∃ (q : Nat) (L : List Nat), k + q + j = D.length ∧ 1 ≤ q ∧ L.length = D.length ∧ L.take (compL (D.take (k + q))).length = compL (D.take (k + q)) ∧ L.drop (k + q - 1) = D.drop (k + q - 1) ∧ (compL (D.take (k + q))).length ≤ k + q - 1 ∧ lk ρ' 0 = .slice (some ⟨b, 0, none⟩) D.length c ∧ lk ρ' 3 = .int .i64 ((compL (D.take (k + q))).length : Int) ∧ lk ρ' 4 = .slice (some ⟨b, k, none⟩) (D.length - k) (c - k) ∧ lk ρ' 5 = .int .i64 (q : Int) ∧ Γ' = own 30 1 (.slice (some ⟨b, 0, none⟩) D.length c) D.length (u32s L) :: Γ) (D.length - k - 1)
      · refine ⟨1, D, by omega, Nat.le_refl _, rfl, ?_, rfl, ?_, rfl, ?_, rfl, rfl, rfl⟩
        · rw [hsn, List.length_take, Nat.min_eq_left (by omega)]
        · rw [hsn, List.length_take]; omega
        · rw [hsn, List.length_take, Nat.min_eq_left (by omega)]; rfl
      rintro j2 IH2 ρ2 _ ⟨q, L, hqj, hq1, hLl, hLt, hLd, hkk2, f0, f3, f4, f5, rfl⟩
      generalize hK : compL (D.take (k + q)) = K at *
      refine TK.know4 f0 f3 f4 f5 ?_
      by_cases hq : k + q < D.length
      · obtain ⟨v, hv⟩ : ∃ v, D[k + q]? = some v := ⟨D[k + q], List.getElem?_eq_getElem hq⟩
        obtain ⟨u, hu⟩ : ∃ u, D[k + q - 1]? = some u := ⟨D[k + q - 1], List.getElem?_eq_getElem (by omega)⟩
        obtain ⟨tt1, tt2⟩ := take_two hu hv (by omega)
        have hsn2 := compL_snoc (D.take (k + q - 1)) u v
        rw [← tt1, ← tt2, hK] at hsn2
        have hLget : ∀ p, k + q - 1 ≤ p → L[p]? = D[p]? := fun p hp => by
          have := congrArg (fun l => l[p - (k + q - 1)]?) hLd
          simp only [List.getElem?_drop] at this
          rwa [show k + q - 1 + (p - (k + q - 1)) = p by omega] at this
        have c1 : has (own 30 1 (.slice (some ⟨b, 0, none⟩) D.length c) D.length (u32s L) :: Γ) (fun m => cellAt m b (k + q) (.int .u32 (v : Int))) := ownU_cell (by rw [hLget _ (by omega), hv])
        have c2 : has (own 30 1 (.slice (some ⟨b, 0, none⟩) D.length c) D.length (u32s L) :: Γ) (fun m => cellAt m b (k + (q - 1)) (.int .u32 (u : Int))) := ownU_cell (by rw [hLget _ (by omega), show k + (q - 1) = k + q - 1 by omega, hu])
        refine m_run ?_
        refine TK.drawS mixed rfl ?_
        refine m_take (At.mk : At 0) ?_; refine m_take (At.mk : At 1) ?_; refine m_take (At.mk : At 2) ?_; refine m_take (At.mk : At 3) ?_; refine m_take (At.mk : At 4) ?_; refine m_take (At.mk : At 5) ?_; refine m_take (At.mk : At 6) ?_
        refine TA.know (t := 41) (v := .int .i64 ((q - 1 : Nat) : Int)) (congrArg (Value.int .i64) (by rw [i64_in (by omega) (by omega)]; omega)) ?_
        refine m_take (At.mk : At 7) ?_; refine m_take (At.mk : At 8) ?_; refine m_take (At.mk : At 9) ?_
        by_cases huv : u = v
        · refine TA.isF 44 rfl (bne_eq_false_iff_eq.2 (by omega)) ?_
          refine TA.done (by kernel_rfl) ?_
          rw [if_pos huv] at hsn2
          refine m_run ?_
          refine IH2 (j2 - 1) _ _ (by omega) ⟨q + 1, L, by omega, by omega, hLl, ?_, ?_, ?_, rfl, ?_, rfl, congrArg (Value.int .i64) (i64_succ q (by omega)), rfl⟩
          · rw [← Nat.add_assoc, hsn2]; exact hLt
          · have := congrArg (List.drop 1) hLd
            rw [List.drop_drop, List.drop_drop] at this
            rwa [show k + q - 1 + 1 = k + (q + 1) - 1 by omega] at this
          · rw [← Nat.add_assoc, hsn2]; omega
          · rw [← Nat.add_assoc, hsn2]; rfl
        · refine TA.isT 44 rfl (bne_iff_ne.2 (by omega)) ?_
          refine TA.done (by kernel_rfl) ?_
          rw [if_neg huv] at hsn2
          refine m_run ?_
          (apply TL.storeOwn 0 K.length; exact rfl; exact rfl; exact rfl; exact rfl; exact tb rfl; exact rfl; exact (Nat.zero_add _).symm)
          · omega
          refine TL.imp (Δ := own 30 1 (.slice (some ⟨b, 0, none⟩) D.length c) D.length (u32s (L.set K.length v)) :: Γ) (fun _ h => by rw [← u32s_set]; exact h) ?_
          have hKL : K.length < L.length := by omega
          have ht3 : (L.set K.length v).take (K.length + 1) = K ++ [v] := by
            rw [List.take_add_one, List.getElem?_set_self hKL, List.take_set_of_le (Nat.le_refl _), hLt]
            rfl
          refine m_run ?_
          refine IH2 (j2 - 1) _ _ (by omega) ⟨q + 1, L.set K.length v, by omega, by omega, by rw [List.length_set]; exact hLl, ?_, ?_, ?_, rfl, ?_, rfl, congrArg (Value.int .i64) (i64_succ q (by omega)), rfl⟩
          · rw [← Nat.add_assoc, hsn2, List.length_append]; exact ht3
          · rw [show k + (q + 1) - 1 = k + q by omega, List.drop_set_of_lt (by omega)]
            have := congrArg (List.drop 1) hLd
            rw [List.drop_drop, List.drop_drop] at this
            rwa [show k + q - 1 + 1 = k + q by omega] at this
          · rw [← Nat.add_assoc, hsn2, List.length_append, List.length_singleton]; omega
          · rw [← Nat.add_assoc, hsn2, List.length_append, List.length_singleton]; exact congrArg (Value.int .i64) (i64_succ K.length (by omega))
      have hkq : k + q = D.length := by omega
      rw [hkq, List.take_length] at hK
      rw [hK]
      clear IH2
      have hck2 : c ≠ K.length := by omega
      refine m_run ?_
      (apply TL.pv; exact rfl; (apply PV.sliceS (i := K.length) (j := D.length); exact rfl; exact tb rfl; exact rfl; exact tb rfl; exact .some rfl; exact .none; exact (by omega); exact hcap))
      refine TL.know (t := 56) (v := .slice (some ⟨b, K.length, none⟩) (D.length - K.length) (c - K.length)) (congrArg (fun z => Value.slice z (D.length - K.length) (c - K.length)) (by
        rw [if_neg hck2]
        show some (Addr.add _ _) = _
        rw [add_at, Nat.mul_one, Nat.zero_add])) ?_
      (apply TL.clearOwn (o := K.length) (m := D.length - K.length) 0; exact rfl; exact rfl; exact tb rfl; exact rfl; exact tb rfl; exact rfl; exact rfl; exact (by omega); exact (by omega))
      refine TL.imp (Δ := own 30 1 (.slice (some ⟨b, 0, none⟩) K.length c) K.length (u32s K) :: Γ) (fun m h => sep_mono h (fun q hq => ?_) (fun _ => id)) ?_
      · have h1 := own_cut (k := K.length) hq (by omega) (by omega)
        have h3 : ((u32s L).take K.length ++ List.replicate (D.length - K.length) (Value.int .u32 0) ++ (u32s L).drop (K.length + (D.length - K.length))).take K.length = u32s K := by
          rw [List.append_assoc, List.take_append_of_le_length (by rw [List.length_take, u32s_len]; omega), List.take_take, Nat.min_self]
          unfold u32s
          rw [← List.map_take, hLt]
        rw [← h3]
        exact h1
      refine m_run ?_
      (apply TL.pv; exact rfl; (apply PV.sliceS (i := 0) (j := K.length); exact rfl; exact tb rfl; exact rfl; exact tb rfl; exact .none; exact .some rfl; exact (by omega); exact (by omega)))
      refine TL.know (t := 59) (v := .slice (some ⟨b, 0, none⟩) K.length c) (by
        show Value.slice (if c = 0 then some ⟨b, 0, none⟩ else some (Addr.add ⟨b, 0, none⟩ (0 * 1))) (K.length - 0) (c - 0) = _
        rw [if_neg (by omega), add_at]
        rfl) ?_
      refine m_run ?_
      (apply TK.ret1; exact rfl; exact rfl; (exact m_val))
      exact ⟨_, rfl, rfl, rfl⟩
    · refine TA.isF 25 rfl (beq_eq_false_iff_ne.2 (by omega)) ?_
      refine TA.done (by kernel_rfl) ?_
      rw [if_neg hxy] at hsn
      have hk2 : compL (D.take (k + 1)) = D.take (k + 1) := by rw [hsn, List.take_add_one, hy]; rfl
      refine m_run ?_
      exact IH (j - 1) _ _ (by omega) ⟨k + 1, by omega, by omega, hk2, rfl, congrArg (Value.int .i64) (i64_succ k (by omega)), rfl⟩
  obtain rfl : k = D.length := by omega
  rw [List.take_length] at hkk
  rw [hkk]
  refine m_run ?_
  (apply TK.ret1; exact rfl; exact rfl; (exact m_val))
  exact ⟨_, rfl, rfl, rfl⟩
def varsOf (l : List Tm) : List Nat := (l.filter (·.v)).map (·.n)
theorem varsOf_snoc (l : List Tm) (x : Tm) : varsOf (l ++ [x]) = if x.v then varsOf l ++ [x.n] else varsOf l := by
  unfold varsOf
  rw [List.filter_append, List.map_append]
  cases hx : x.v <;> simp [hx]
theorem varsOf_len (l : List Tm) : (varsOf l).length ≤ l.length := by
  unfold varsOf
  rw [List.length_map]
  exact List.length_filter_le _ _
theorem u32s_snoc (l : List Nat) (x : Nat) : u32s l ++ [.int .u32 (x : Int)] = u32s (l ++ [x]) := by simp [u32s]
theorem compL_mem : ∀ (l : List Nat) (x : Nat), x ∈ compL l ↔ x ∈ l
  | [], x => Iff.rfl
  | [a], x => Iff.rfl
  | a :: b :: l, x => by
    have ih := compL_mem (b :: l) x
    have h : compL (a :: b :: l) = if a = b then compL (b :: l) else a :: compL (b :: l) := rfl
    rw [h]
    split
    · rename_i hab
      rw [ih, hab]
      simp
    · rw [List.mem_cons, ih, List.mem_cons (a := x) (b := a)]
end Go.Proofs.Ytndmjpceocecdaa.E
