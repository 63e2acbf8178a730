/- MY OWN LAYER: maps, more: what is taken out, how many entries, a range over a map (in whatever order). P is a variable. -/
import Derived.Test.YthbcfamfaicneaaSx
import Derived.Laws.IdiomRangeMap
namespace Go.Proofs.Ythbcfamfaicneaa.E
open Go Go.RowKit

theorem keyNat {P : Program} {kt : TypeId} {q : IntKind} (ht : P.underlying kt = some (.int q)) : KeyOk P kt (fun n : Nat => Value.int q (n : Int)) where
  find k L es w h := find_now ht (fun a b => by
      simp only [Instr.sameNow, if_true]
      by_cases hab : a = b
      · simp [hab]
      · have : ((a : Int) == (b : Int)) = false := by simp; omega
        rw [this]; simp [hab]) k L es w h
  check k em w := checkKey_plain ht _ rfl em w
  stay k w := by simp [Instr.keyThatStays, Instr.sameBits]
/-- The entries without the one of this key. -/
def dropE {α β : Type} [DecidableEq α] : List (α × β) → α → List (α × β)
  | [], _ => []
  | p :: es, k => if k = p.1 then es else p :: dropE es k
theorem dropE_none {α β : Type} [DecidableEq α] {k : α} : ∀ {es : List (α × β)}, lookE es k = none → dropE es k = es
  | [], _ => rfl
  | p :: es, h => by
    simp only [lookE] at h
    split at h
    · cases h
    · rename_i hk
      simp only [dropE, hk, if_false, dropE_none h]
theorem dropE_idx {α β : Type} [DecidableEq α] {k : α} : ∀ {es : List (α × β)} {j : Nat}, (es.map (·.1)).findIdx? (fun x => decide (k = x)) = some j → es.eraseIdx j = dropE es k
  | [], _, h => by simp at h
  | p :: es, j, h => by
    rw [List.map_cons, List.findIdx?_cons] at h
    simp only [dropE]
    by_cases hk : k = p.1
    · simp only [hk, decide_true, if_true, Option.some.injEq] at h
      subst h
      simp [hk]
    · simp only [hk, decide_false, Bool.false_eq_true, if_false] at h
      obtain ⟨j', h1, h2⟩ := Option.map_eq_some_iff.1 h
      subst h2
      simp only [hk, if_false, List.eraseIdx_cons_succ, dropE_idx h1]
/-- The entries with this one laid in, or its value turned. -/
def setE {α β : Type} [DecidableEq α] : List (α × β) → α → β → List (α × β)
  | [], k, v => [(k, v)]
  | p :: es, k, v => if k = p.1 then (k, v) :: es else p :: setE es k v
theorem setE_none {α β : Type} [DecidableEq α] {k : α} {v : β} : ∀ {es : List (α × β)}, lookE es k = none → setE es k v = es ++ [(k, v)]
  | [], _ => rfl
  | p :: es, h => by
    simp only [lookE] at h
    split at h
    · cases h
    · rename_i hk
      simp only [setE, hk, if_false, setE_none h, List.cons_append]
theorem setE_idx {α β : Type} [DecidableEq α] {k : α} {v : β} : ∀ {es : List (α × β)} {j : Nat}, (es.map (·.1)).findIdx? (fun x => decide (k = x)) = some j → (∃ p, es[j]? = some p ∧ p.1 = k) ∧ es.modify j (fun _ => (k, v)) = setE es k v
  | [], _, h => by simp at h
  | p :: es, j, h => by
    rw [List.map_cons, List.findIdx?_cons] at h
    simp only [setE]
    by_cases hk : k = p.1
    · simp only [hk, decide_true, if_true, Option.some.injEq] at h
      subst h
      exact ⟨⟨p, by simp, hk.symm⟩, by simp [hk]⟩
    · simp only [hk, decide_false, Bool.false_eq_true, if_false] at h
      obtain ⟨j', h1, h2⟩ := Option.map_eq_some_iff.1 h
      subst h2
      obtain ⟨h3, h4⟩ := setE_idx (v := v) h1
      exact ⟨by simpa using h3, by simp [hk, h4]⟩
theorem lookE_set {α β : Type} [DecidableEq α] {k k' : α} {v : β} : ∀ {es : List (α × β)}, lookE (setE es k v) k' = if k' = k then some v else lookE es k'
  | [] => by simp [setE, lookE]
  | p :: es => by
    simp only [setE]
    by_cases hk : k = p.1
    · simp only [hk, if_true, lookE]
      by_cases h' : k' = p.1 <;> simp [h']
    · simp only [hk, if_false, lookE, lookE_set]
      by_cases h' : k' = p.1
      · have : k' ≠ k := fun e => hk (e ▸ h')
        simp [h', this]
        intro e; exact absurd e.symm hk
      · simp [h']
def MapOk {α β : Type} (kv : α → Value) (vv : β → Value) (arr : Array MapEntry) (clk : Nat) (es : List (α × β)) : Prop :=
  arr.toList.map (fun e => (e.key, e.val)) = es.map (fun p => (kv p.1, vv p.2)) ∧ (∀ e ∈ arr.toList, e.born < clk) ∧ (arr.toList.map (·.born)).Nodup
theorem mapA_of {α β : Type} {kv : α → Value} {vv : β → Value} {b : Nat} {es : List (α × β)} {arr : Array MapEntry} {clk : Nat} {m : Mem} (h : pt b (.map arr clk) m) (ho : MapOk kv vv arr clk es) : mapA kv vv b es m := ⟨arr, clk, h, ho⟩
/-- What an iterator has not handed out, of entries with different stamps. -/
theorem filter_born (e : MapEntry) : ∀ (L : List MapEntry) (j : Nat), (L.map (·.born)).Nodup → L[j]? = some e → L.filter (fun x => x.born != e.born) = L.eraseIdx j
  | [], j, _, h => by simp at h
  | x :: L, 0, hn, h => by
    simp at h
    subst h
    simp only [List.map_cons, List.nodup_cons] at hn
    simp only [List.filter_cons, bne_self_eq_false, Bool.false_eq_true, if_false, List.eraseIdx_cons_zero]
    refine List.filter_eq_self.2 fun y hy => ?_
    have : y.born ≠ x.born := fun he => hn.1 (he ▸ List.mem_map.2 ⟨y, hy, rfl⟩)
    simpa using this
  | x :: L, j + 1, hn, h => by
    simp only [List.map_cons, List.nodup_cons] at hn
    simp only [List.getElem?_cons_succ] at h
    have hm : e ∈ L := List.mem_of_getElem? h
    have : x.born ≠ e.born := fun he => hn.1 (he ▸ List.mem_map.2 ⟨e, hm, rfl⟩)
    have hb : (x.born != e.born) = true := by simpa using this
    rw [List.filter_cons, hb, if_pos rfl, List.eraseIdx_cons_succ, filter_born e L j hn.2 h]
def leftL (arr : Array MapEntry) (seen : Array Nat) : List MapEntry := arr.toList.filter fun e => !seen.contains e.born
theorem leftL_push (arr : Array MapEntry) (seen : Array Nat) (s : Nat) : leftL arr (seen.push s) = (leftL arr seen).filter (fun x => x.born != s) := by
  unfold leftL
  rw [List.filter_filter]
  congr 1
  funext e
  simp only [Array.contains_push]
  cases seen.contains e.born <;> simp [bne, Bool.beq_comm]
  try exact Bool.eq_iff_iff.2 (by simp [eq_comm])
theorem leftL_nodup {arr : Array MapEntry} (seen : Array Nat) (h : (arr.toList.map (·.born)).Nodup) : ((leftL arr seen).map (·.born)).Nodup := (List.filter_sublist.map _).nodup h
/-- 'next', the iterator in whatever block: nothing is left, or any one that is left comes out. -/
theorem run_next_at {P : Program} (w : World) (ty : TypeId) (bm it since : Nat) (seen : Array Nat) (arr : Array MapEntry) (clk : Nat) (hi : w.heap[it]? = some (.mapIter (some bm) since seen since)) (hb : w.heap[bm]? = some (.map arr clk)) (hold : ∀ x ∈ arr.toList, x.born < since) :
    (leftL arr seen = [] ∧ (Instr.next (.pointer (some ⟨it, 0, none⟩)) false ty).run P w = .ok (.tuple #[.bool false]) w) ∨
    ∃ (j : Nat) (e : MapEntry) (w1 : World), (leftL arr seen)[j]? = some e ∧ (w1.heap = w.heap ∧ w1.os = w.os ∧ w1.output = w.output) ∧ (Instr.next (.pointer (some ⟨it, 0, none⟩)) false ty).run P w = .ok (.tuple #[.bool true, e.key, e.val]) { w1 with heap := w1.heap.setIfInBounds it (.mapIter (some bm) since (seen.push e.born) clk) } := by
  have hgi : (getObj it).run P w = .ok (.mapIter (some bm) since seen since) w := by simp [getObj, Sem.run, hi]
  have hgb : (getObj bm).run P w = .ok (.map arr clk) w := by simp [getObj, Sem.run, hb]
  simp only [Instr.next, Sem.run_bind, hgi, hgb, Result.andThen_ok, next_test_false seen arr since since hold (Nat.le_refl _), Bool.false_eq_true, if_false, Sem.run_pure]
  have hL : (Array.filter (fun e => !seen.contains e.born) arr).toList = leftL arr seen := by simp [leftL]
  have hmem : ∀ x ∈ (Array.filter (fun e => !seen.contains e.born) arr).toList, x.born < since := fun x hx => hold x (by simp at hx ⊢; exact hx.1)
  rw [← hL]
  generalize Array.filter (fun e => !seen.contains e.born) arr = L at hmem ⊢
  have e1 : L.filter (fun x => decide (x.born < since)) = L := Array.filter_eq_self.2 (fun x hx => by simpa using hmem x (by simpa using hx))
  have e2 : L.filter (fun x => decide (x.born ≥ since)) = #[] := by
    rw [Array.filter_eq_empty_iff]
    intro x hx
    have := hmem x (by simpa using hx)
    simp
    omega
  simp only [e1, e2, Array.append_empty]
  by_cases h0 : L.size = 0
  · left
    have : L = #[] := Array.eq_empty_of_size_eq_zero h0
    subst this
    refine ⟨rfl, ?_⟩
    simp [choose, Sem.run, Question.forced]
  · right
    have hne : L.isEmpty = false := by simp [Array.isEmpty, h0]
    simp only [hne, Bool.false_eq_true, if_false, Array.empty_append, Array.size_map]
    have hch : ∃ (j : Nat) (w1 : World), j < L.size ∧ (w1.heap = w.heap ∧ w1.os = w.os ∧ w1.output = w.output) ∧ (choose (Question.mapNext L.size)).run P w = .ok j w1 := by
      by_cases hf : L.size ≤ 1
      · exact ⟨0, w, by omega, ⟨rfl, rfl, rfl⟩, by simp [choose, Sem.run, Question.forced, hf]⟩
      · exact ⟨_, w.drew, Nat.mod_lt _ (by omega), ⟨rfl, rfl, rfl⟩, by
          simp only [choose, Sem.run, Question.forced, decide_eq_true_eq, hf, if_false, Question.cut]
          rfl⟩
    obtain ⟨j, w1, hj, hal, hrun⟩ := hch
    have hset : (setObj it (.mapIter (some bm) since (seen.push L[j].born) clk)).run P w1 = .ok () { w1 with heap := w1.heap.setIfInBounds it (.mapIter (some bm) since (seen.push L[j].born) clk) } := by
      have : w1.heap[it]? = some (.mapIter (some bm) since seen since) := by rw [hal.1]; exact hi
      simp [setObj, Sem.run, this]
    refine ⟨j, L[j], w1, by simp [hj], hal, ?_⟩
    simp only [hrun, Result.andThen_ok, Array.getElem?_map, Array.getElem?_eq_getElem hj, Option.map_some, Sem.run_bind, hset, Sem.run_pure]
theorem run_entry_at {P : Program} (w : World) (bm it since : Nat) (seen : Array Nat) (arr : Array MapEntry) (e : MapEntry) (hi : w.heap[it]? = some (.mapIter (some bm) since seen since)) (hb : w.heap[bm]? = some (.map arr since)) (he : e ∈ arr.toList) (hs : seen.back? = some e.born) (hn : (arr.toList.map (·.born)).Nodup) :
    (Instr.entry (.pointer (some ⟨it, 0, none⟩))).run P w = .ok (.tuple #[e.key, e.val]) w := by
  have hgi : (getObj it).run P w = .ok (.mapIter (some bm) since seen since) w := by simp [getObj, Sem.run, hi]
  have hgb : (getObj bm).run P w = .ok (.map arr since) w := by simp [getObj, Sem.run, hb]
  have hf : arr.find? (·.born == e.born) = some e := by rw [← Array.find?_toList]; exact Go.find_born e arr.toList hn he
  simp only [Instr.entry, Sem.run_bind, hgi, hgb, Result.andThen_ok, hs, bne_self_eq_false, Bool.false_eq_true, if_false, hf, Sem.run_pure]
/-- A map that is ranged over, and its iterator: all entries, those that are left, the one that came last. -/
def iterA {α β : Type} (kv : α → Value) (vv : β → Value) (b it : Nat) (es rem : List (α × β)) (last : Option (α × β)) : HP := fun m => ∃ (arr : Array MapEntry) (clk : Nat) (seen : Array Nat), sep (pt b (.map arr clk)) (pt it (.mapIter (some b) clk seen clk)) m ∧ MapOk kv vv arr clk es ∧
  (leftL arr seen).map (fun e => (e.key, e.val)) = rem.map (fun p => (kv p.1, vv p.2)) ∧ (∀ p, last = some p → ∃ e ∈ arr.toList, seen.back? = some e.born ∧ (e.key, e.val) = (kv p.1, vv p.2))
theorem iterA_map {α β : Type} {kv : α → Value} {vv : β → Value} {b it : Nat} {es rem : List (α × β)} {last : Option (α × β)} {m : Mem} (h : iterA kv vv b it es rem last m) : ∃ m', Mem.sub m' m ∧ mapA kv vv b es m' := by
  obtain ⟨arr, clk, seen, ⟨x, y, hd, rfl, hx, _⟩, ho, _⟩ := h
  exact ⟨x, Mem.sub_left x y, arr, clk, hx, ho⟩
theorem iterA_at {α β : Type} {kv : α → Value} {vv : β → Value} {b it : Nat} {es rem : List (α × β)} {last : Option (α × β)} {m : Mem} (h : iterA kv vv b it es rem last m) : mapAt kv vv b es m := by
  obtain ⟨m', hs, h1⟩ := iterA_map h
  exact up_map _ _ _ _ _ _ hs (mapA_at h1)
theorem all_into {Γ : List HP} {H K : HP} {i : Nat} (hi : Γ[i]? = some H) {m : Mem} (hm : all (K :: Γ) m) : all (Γ.set i (sep H K)) m := by
  refine all_perm (perm_set _ hi).symm ?_
  have h1 : sep K (all (H :: Γ.eraseIdx i)) m := sep_mono hm (fun _ => id) (fun _ => all_front hi)
  exact sep_assoc' (sep_swap h1)
/-- A part of what stands at place i is left. -/
theorem Sat.less {E : World} {Γ : List HP} {w : World} {H K : HP} {i : Nat} (hi : Γ[i]? = some H) (hk : ∀ m, H m → ∃ m', Mem.sub m' m ∧ K m') (h : Sat E Γ w) : Sat E (Γ.set i K) w :=
  h.weaken fun m hm => by
    obtain ⟨a, b, hd, rfl, ha, hb⟩ := all_front hi hm
    obtain ⟨a', hs, hK⟩ := hk a ha
    have hd' : Mem.disj a' b := fun k => by
      rcases hd k with h | h
      · left
        cases h' : a' k with
        | none => rfl
        | some o => have := hs k o h'; rw [h] at this; cases this
      · exact .inr h
    refine ⟨Mem.join a' b, ?_, all_perm (perm_set K hi).symm ⟨a', b, hd', rfl, hK, hb⟩⟩
    intro k o hk
    cases h' : a' k with
    | some q =>
      have h1 : q = o := by simpa [Mem.join, h'] using hk
      subst h1
      simp [Mem.join, hs k q h']
    | none =>
      have h1 : b k = some o := by simpa [Mem.join, h'] using hk
      rcases hd k with h | h
      · simp [Mem.join, h, h1]
      · rw [h] at h1; cases h1
section
variable {cx : Cx} {ops : Array Oper} {K : Act → World → Prop} {rest : List Oper} {ρ : Env} {ds : List Deferred} {Γ : List HP} {d : Nat} {ty : TypeId} {pos : String} {after : Array Edge} {α β : Type} [DecidableEq α] {kv : α → Value} {vv : β → Value} {mt kt et : TypeId} {x y z : Operand} {b : Nat} {k : α} {es : List (α × β)} {r r' : TR}
omit [DecidableEq α] in
theorem get_set {γ : Type} {l : List γ} {i : Nat} {x : γ} (hi : l[i]? = some x) (y : γ) : (l.set i y)[i]? = some y := by
  have := (List.getElem?_eq_some_iff.1 hi).1
  simp [this]
omit [DecidableEq α] in
theorem PV.lenMap (ea : ev ρ x = .map (some b)) (ht : TabOk cx.P mt r) (hq : r.und = .map kt et) (hm : has Γ (mapAt kv vv b es)) : PV cx.P ρ (Sat cx.E Γ) ⟨some d, .call ⟨.builtin .len, #[x], #[mt]⟩, ty, pos, after, none⟩ (.int .i64 es.length) := fun w hs => by
  obtain ⟨_, _, m, hm', hw⟩ := hs
  obtain ⟨arr, clk, h1, h2⟩ := hm m hm'
  have h3 := run_getMap (P := cx.P) (hw _ _ h1)
  have hlen : arr.size = es.length := by simpa using congrArg List.length h2
  simp [execOp, resolve, invoke, builtin, ea, Builtin.len_, ht.run_und, hq, h3, hlen, goInt]
omit [DecidableEq α] in
/-- A range over a map begins. -/
theorem TL.rangeMap (i : Nat) (hi : Γ[i]? = some (mapA kv vv b es)) (hd : Nat.blt d cx.n = true) (ht : TabOk cx.P mt r) (hq : r.und = .map kt et) (ea : ev ρ x = .map (some b))
    (h : ∀ it : Nat, TL cx ops K rest ((d, .pointer (some ⟨it, 0, none⟩)) :: ρ) ds (Γ.set i (iterA kv vv b it es es none))) : TL cx ops K (⟨some d, .range mt x, ty, pos, after, none⟩ :: rest) ρ ds Γ :=
  .act (X := Nat) (φ := fun _ => True) (v := fun it => .pointer (some ⟨it, 0, none⟩)) (Δ := fun it => Γ.set i (iterA kv vv b it es es none)) hd (fun w hs => by
    obtain ⟨⟨arr, clk⟩, ho, hs1⟩ := hs.at hi (X := Array MapEntry × Nat) (φ := fun p => MapOk kv vv p.1 p.2 es) (K := fun p => pt b (.map p.1 p.2)) (fun m ⟨arr, clk, h0, h1⟩ => ⟨(arr, clk), h1, h0⟩)
    have hi1 := get_set hi (pt b (.map arr clk))
    have hb := hs1.block hi1
    refine ⟨w.heap.size, w.alloc (.mapIter (some b) clk #[] clk), trivial, ?_, ?_⟩
    rotate_left
    · simp only [execOp, ea, Sem.run_bind, run_range_map (P := cx.P) w mt kt et b arr clk (by rw [← hq]; exact ht.1) hb, Result.andThen_ok, Sem.run_pure]
    · have := (hs1.alloc (.mapIter (some b) clk #[] clk)).imp (Δ := Γ.set i (iterA kv vv b w.heap.size es es none)) fun m hm => by
        have h2 := all_into hi1 hm
        simp only [List.set_set] at h2
        have h3 := all_set (K := iterA kv vv b w.heap.size es es none) (get_set hi (sep (pt b (.map arr clk)) (pt w.heap.size (.mapIter (some b) clk #[] clk)))) (fun m' hm' => ⟨arr, clk, #[], hm', ho, by rw [show leftL arr #[] = arr.toList from List.filter_eq_self.2 (by simp)]; exact ho.1, fun p hp => by cases hp⟩) h2
        simpa only [List.set_set] using h3
      exact this) (fun it _ => h it)
omit [DecidableEq α] in
/-- One round more, or none. -/
theorem TL.nextMap (i : Nat) {it : Nat} {rem : List (α × β)} {last : Option (α × β)} (hi : Γ[i]? = some (iterA kv vv b it es rem last)) (hd : Nat.blt d cx.n = true) (ea : ev ρ x = .pointer (some ⟨it, 0, none⟩))
    (h0 : rem = [] → TL cx ops K rest ((d, .tuple #[.bool false]) :: ρ) ds Γ)
    (h1 : ∀ j p, rem[j]? = some p → TL cx ops K rest ((d, .tuple #[.bool true, kv p.1, vv p.2]) :: ρ) ds (Γ.set i (iterA kv vv b it es (rem.eraseIdx j) (some p)))) : TL cx ops K (⟨some d, .next x false, ty, pos, after, none⟩ :: rest) ρ ds Γ :=
  .act (X := Option (Nat × (α × β))) (φ := fun q => match q with | none => rem = [] | some (j, p) => rem[j]? = some p) (v := fun q => match q with | none => .tuple #[.bool false] | some (_, p) => .tuple #[.bool true, kv p.1, vv p.2])
    (Δ := fun q => match q with | none => Γ | some (j, p) => Γ.set i (iterA kv vv b it es (rem.eraseIdx j) (some p))) hd (fun w hs => by
    obtain ⟨⟨⟨arr, clk⟩, seen⟩, ⟨ho, hrem, hlast⟩, hs1⟩ := hs.at hi (X := (Array MapEntry × Nat) × Array Nat) (φ := fun q => MapOk kv vv q.1.1 q.1.2 es ∧ (leftL q.1.1 q.2).map (fun e => (e.key, e.val)) = rem.map (fun p => (kv p.1, vv p.2)) ∧ (∀ p, last = some p → ∃ e ∈ q.1.1.toList, q.2.back? = some e.born ∧ (e.key, e.val) = (kv p.1, vv p.2)))
      (K := fun q => sep (pt b (.map q.1.1 q.1.2)) (pt it (.mapIter (some b) q.1.2 q.2 q.1.2))) (fun m ⟨arr, clk, seen, h0, h1, h2, h3⟩ => ⟨((arr, clk), seen), ⟨h1, h2, h3⟩, h0⟩)
    have hi1 := get_set hi (sep (pt b (.map arr clk)) (pt it (.mapIter (some b) clk seen clk)))
    have hs2 : Sat cx.E (pt b (.map arr clk) :: pt it (.mapIter (some b) clk seen clk) :: Γ.eraseIdx i) w := hs1.imp fun m hm => by
      have := all_front hi1 hm
      rw [List.eraseIdx_set_eq] at this
      exact sep_assoc this
    have hb := hs2.block (i := 0) rfl
    have hit := hs2.block (i := 1) rfl
    have hop : ∀ v w', (Instr.next (.pointer (some ⟨it, 0, none⟩)) false ty).run cx.P w = .ok v w' → (execOp (ev ρ) ⟨some d, .next x false, ty, pos, after, none⟩).run cx.P w = .ok (.value v) w' := fun v w' h => by
      simp only [execOp, ea, Sem.run_bind, h, Result.andThen_ok, Sem.run_pure]
    rcases run_next_at (P := cx.P) w ty b it clk seen arr clk hit hb ho.2.1 with ⟨hl, hrun⟩ | ⟨j, e, w1, hj, hal, hrun⟩
    · refine ⟨none, w, ?_, hs, hop _ _ hrun⟩
      rw [hl] at hrem
      exact List.map_eq_nil_iff.1 hrem.symm
    · have hjr : ∃ p, rem[j]? = some p ∧ (e.key, e.val) = (kv p.1, vv p.2) := by
        have := congrArg (fun l => l[j]?) hrem
        simp only [List.getElem?_map, hj, Option.map_some] at this
        obtain ⟨p, h1, h2⟩ := Option.map_eq_some_iff.1 this.symm
        exact ⟨p, h1, h2.symm⟩
      obtain ⟨p, hp, hep⟩ := hjr
      obtain ⟨hk1, hv1⟩ := Prod.mk.inj hep
      refine ⟨some (j, p), _, hp, ?_, hop _ _ (by rw [hrun, hk1, hv1])⟩
      have hs3 := hs2.alike hal
      have hlt : it < w1.heap.size := by rw [hal.1]; exact (Array.getElem?_eq_some_iff.1 hit).1
      have hput := hs3.put (w' := { w1 with heap := w1.heap.setIfInBounds it (.mapIter (some b) clk (seen.push e.born) clk) }) (i := 1) rfl (o' := .mapIter (some b) clk (seen.push e.born) clk) rfl rfl rfl (by simp [hlt]) (fun q hq o ho => by rw [heap_set w1 it q _ hq]; exact ho)
      refine hput.imp fun m hm => ?_
      refine all_perm (perm_set _ hi).symm (sep_mono (sep_assoc' hm) (fun m' hm' => ?_) (fun _ => id))
      have heL : e ∈ leftL arr seen := List.mem_of_getElem? hj
      refine ⟨arr, clk, seen.push e.born, hm', ho, ?_, fun p' hp' => ?_⟩
      · rw [leftL_push, filter_born e _ j (leftL_nodup seen ho.2.2) hj, ← eraseIdx_map, hrem, eraseIdx_map]
      · injection hp' with hp'
        subst hp'
        exact ⟨e, (List.mem_filter.1 heL).1, by simp, hep⟩) (fun q hq => by
    match q, hq with
    | none, hq => exact h0 hq
    | some (j, p), hq => exact h1 j p hq)
omit [DecidableEq α] in
theorem PV.entryMap (i : Nat) {it : Nat} {rem : List (α × β)} {p : α × β} (hi : Γ[i]? = some (iterA kv vv b it es rem (some p))) (ea : ev ρ x = .pointer (some ⟨it, 0, none⟩)) : PV cx.P ρ (Sat cx.E Γ) ⟨some d, .entry x, ty, pos, after, none⟩ (.tuple #[kv p.1, vv p.2]) := fun w hs => by
  obtain ⟨_, _, m, hm, hw⟩ := hs
  obtain ⟨y, z, hd, rfl, ⟨arr, clk, seen, ⟨u, v, hd2, rfl, hu, hv⟩, ho, hrem, hlast⟩, _⟩ := all_front hi hm
  obtain ⟨e, he, hback, hep⟩ := hlast p rfl
  obtain ⟨hk1, hv1⟩ := Prod.mk.inj hep
  have hb : w.heap[b]? = some (.map arr clk) := hw _ _ (Mem.sub_left _ z _ _ (Mem.sub_left u v _ _ (by rw [hu b]; simp)))
  have hit : w.heap[it]? = some (.mapIter (some b) clk seen clk) := hw _ _ (Mem.sub_left _ z _ _ (Mem.sub_right hd2 _ _ (by rw [hv it]; simp)))
  simp only [execOp, ea, Sem.run_bind, run_entry_at (P := cx.P) w b it clk seen arr e hit hb he hback ho.2.2, Result.andThen_ok, Sem.run_pure, hk1, hv1]
omit [DecidableEq α] in
/-- The range is over: the iterator is let go. -/
theorem TK.iterEnd (i : Nat) {it : Nat} {k : List Item} {rem : List (α × β)} {last : Option (α × β)} (hi : Γ[i]? = some (iterA kv vv b it es rem last)) (h : TK cx k ρ ds (Γ.set i (mapA kv vv b es))) : TK cx k ρ ds Γ := fun a w hr hs => h a w hr (hs.less hi fun _ hm => iterA_map hm)
omit [DecidableEq α] in
theorem TL.iterEnd (i : Nat) {it : Nat} {rem : List (α × β)} {last : Option (α × β)} (hi : Γ[i]? = some (iterA kv vv b it es rem last)) (h : TL cx ops K rest ρ ds (Γ.set i (mapA kv vv b es))) : TL cx ops K rest ρ ds Γ := fun a w hr hs => h a w hr (hs.less hi fun _ hm => iterA_map hm)
/-- An entry is taken out. -/
theorem run_del (i : Nat) (hi : Γ[i]? = some (mapA kv vv b es)) (hk : KeyOk cx.P kt kv) (ht : TabOk cx.P mt r) (hq : r.und = .map kt et) (hu : ∃ kd, cx.P.underlying kt = some kd) {ts : Array TypeId} (hts : ts[0]? = some mt) (w : World) (hs : Sat cx.E Γ w) :
    ∃ w', Sat cx.E (Γ.set i (mapA kv vv b (dropE es k))) w' ∧ (Builtin.delete_ ts ty #[.map (some b), kv k]).run cx.P w = .ok (.tuple #[]) w' := by
  obtain ⟨⟨arr, clk⟩, ⟨h1, h2, h3⟩, hs1⟩ := hs.at hi (X := Array MapEntry × Nat) (φ := fun p => MapOk kv vv p.1 p.2 es) (K := fun p => pt b (.map p.1 p.2)) (fun m ⟨arr, clk, h0, h1⟩ => ⟨(arr, clk), h1, h0⟩)
  simp only at h1 h2 h3
  have hi1 := get_set hi (pt b (.map arr clk))
  have hb := hs1.block hi1
  have hlt : b < w.heap.size := (Array.getElem?_eq_some_iff.1 hb).1
  obtain ⟨kd, hu⟩ := hu
  obtain ⟨h4, h5⟩ := run_find (P := cx.P) hk hu k h1 w
  have fin : ∀ arr', MapOk kv vv arr' clk (dropE es k) → Sat cx.E (Γ.set i (mapA kv vv b (dropE es k))) { w with heap := w.heap.setIfInBounds b (.map arr' clk) } := fun arr' ho => by
    have hput := hs1.put (w' := { w with heap := w.heap.setIfInBounds b (.map arr' clk) }) hi1 (o' := .map arr' clk) rfl rfl rfl (by simp [hlt]) (fun q hq o ho => by rw [heap_set w b q _ hq]; exact ho)
    simp only [List.set_set] at hput
    have := hput.imp fun m hm => all_set (K := mapA kv vv b (dropE es k)) (get_set hi (pt b (.map arr' clk))) (fun m' hm' => ⟨arr', clk, hm', ho⟩) hm
    simpa only [List.set_set] using this
  cases hf : (es.map (·.1)).findIdx? (fun x => decide (k = x)) with
  | none =>
    rw [hf] at h4 h5
    have hn : lookE es k = none := by simpa using h5.symm
    refine ⟨_, fin arr ?_, ?_⟩
    · rw [dropE_none hn]; exact ⟨h1, h2, h3⟩
    · simp only [Builtin.delete_, hts, Sem.run_bind, ht.run_und, hq, Result.andThen_ok, run_getMap hb, hk.check, h4, Option.map_none, run_setMap hb, Sem.run_pure, List.getElem?_toArray, List.getElem?_cons_zero, List.getElem?_cons_succ]
  | some j =>
    rw [hf] at h4
    have hje : j < es.length := by
      have := (List.findIdx?_eq_some_iff_findIdx_eq.1 hf).1
      simpa using this
    have hlen : arr.toList.length = es.length := by simpa using congrArg List.length h1
    have hja : j < arr.size := by simpa using (hlen ▸ hje : j < arr.toList.length)
    have hel : (arr.eraseIdxIfInBounds j).toList = arr.toList.eraseIdx j := by
      unfold Array.eraseIdxIfInBounds
      simp [hja]
    refine ⟨_, fin (arr.eraseIdxIfInBounds j) ⟨?_, ?_, ?_⟩, ?_⟩
    · rw [hel, ← eraseIdx_map, h1, eraseIdx_map, dropE_idx hf]
    · intro e he
      rw [hel] at he
      exact h2 e (List.mem_of_mem_eraseIdx he)
    · rw [hel]
      exact ((List.eraseIdx_sublist _ _).map _).nodup h3
    · simp only [Builtin.delete_, hts, Sem.run_bind, ht.run_und, hq, Result.andThen_ok, run_getMap hb, hk.check, h4, Option.map_some, run_setMap hb, Sem.run_pure, List.getElem?_toArray, List.getElem?_cons_zero, List.getElem?_cons_succ]
/-- An operation whose value nobody takes. -/
theorem TL.actN {op : Op} {v : Value} {Δ : List HP}
    (hrun : ∀ w, Sat cx.E Γ w → ∃ w', Sat cx.E Δ w' ∧ (execOp (ev ρ) ⟨none, op, ty, pos, after, none⟩).run cx.P w = .ok (.value v) w')
    (h : TL cx ops K rest ρ ds Δ) : TL cx ops K (⟨none, op, ty, pos, after, none⟩ :: rest) ρ ds Γ := by
  intro a w hr hs
  obtain ⟨w', hs', e⟩ := hrun w hs
  exact wpL_value rfl (by rw [hr.ev]; exact e) (h _ _ (hr.none _) hs')
theorem TL.delMap (i : Nat) {ts : Array TypeId} (hi : Γ[i]? = some (mapA kv vv b es)) (hts : ts[0]? = some mt) (ht : TabOk cx.P mt r) (hq : r.und = .map kt et) (hk : KeyOk cx.P kt kv) (hu : ∃ kd, cx.P.underlying kt = some kd) (ea : ev ρ x = .map (some b)) (eb : ev ρ y = kv k)
    (h : TL cx ops K rest ρ ds (Γ.set i (mapA kv vv b (dropE es k)))) : TL cx ops K (⟨none, .call ⟨.builtin .delete, #[x, y], ts⟩, ty, pos, after, none⟩ :: rest) ρ ds Γ :=
  .actN (v := .tuple #[]) (fun w hs => by
    obtain ⟨w', h1, h2⟩ := run_del (ty := ty) (k := k) i hi hk ht hq hu hts w hs
    exact ⟨w', h1, by simp [execOp, resolve, invoke, builtin, ea, eb, h2]⟩) h
/-- An entry is laid in, or gets another value. -/
theorem TL.mapPutG {op : Op} (hop : op = .mapUpdate mt x y z ∨ op = .insert mt x y z) (i : Nat) {v : Value} {nv : β} (hi : Γ[i]? = some (mapA kv vv b es)) (hk : KeyOk cx.P kt kv) (ht : TabOk cx.P mt r) (hq : r.und = .map kt et) (hu : ∃ kd, cx.P.underlying kt = some kd) (ea : ev ρ x = .map (some b)) (eb : ev ρ y = kv k) (ec : ev ρ z = v) (hv : v = vv nv)
    (h : TL cx ops K rest ρ ds (Γ.set i (mapA kv vv b (setE es k nv)))) : TL cx ops K (⟨none, op, ty, pos, after, none⟩ :: rest) ρ ds Γ :=
  .act0 (fun w hs => by
    obtain ⟨⟨arr, clk⟩, ⟨h1, h2, h3⟩, hs1⟩ := hs.at hi (X := Array MapEntry × Nat) (φ := fun p => MapOk kv vv p.1 p.2 es) (K := fun p => pt b (.map p.1 p.2)) (fun m ⟨arr, clk, h0, h1⟩ => ⟨(arr, clk), h1, h0⟩)
    simp only at h1 h2 h3
    have hi1 := get_set hi (pt b (.map arr clk))
    have hb := hs1.block hi1
    have hlt : b < w.heap.size := (Array.getElem?_eq_some_iff.1 hb).1
    obtain ⟨kd, hu⟩ := hu
    obtain ⟨h4, h5⟩ := run_find (P := cx.P) hk hu k h1 w
    have fin : ∀ arr' clk', MapOk kv vv arr' clk' (setE es k nv) → Sat cx.E (Γ.set i (mapA kv vv b (setE es k nv))) { w with heap := w.heap.setIfInBounds b (.map arr' clk') } := fun arr' clk' ho => by
      have hput := hs1.put (w' := { w with heap := w.heap.setIfInBounds b (.map arr' clk') }) hi1 (o' := .map arr' clk') rfl rfl rfl (by simp [hlt]) (fun q hq o ho => by rw [heap_set w b q _ hq]; exact ho)
      simp only [List.set_set] at hput
      have := hput.imp fun m hm => all_set (K := mapA kv vv b (setE es k nv)) (get_set hi (pt b (.map arr' clk'))) (fun m' hm' => ⟨arr', clk', hm', ho⟩) hm
      simpa only [List.set_set] using this
    have hlen : arr.toList.length = es.length := by simpa using congrArg List.length h1
    cases hf : (es.map (·.1)).findIdx? (fun x => decide (k = x)) with
    | none =>
      rw [hf] at h4 h5
      have hn : lookE es k = none := by simpa using h5.symm
      refine ⟨_, fin (arr.push { key := kv k, val := v, born := clk }) (clk + 1) ⟨?_, ?_, ?_⟩, ?_⟩
      · rw [Array.toList_push, List.map_append, h1, setE_none hn, List.map_append, hv]; rfl
      · intro e hee
        rw [Array.toList_push, List.mem_append] at hee
        rcases hee with hee | hee
        · exact Nat.lt_succ_of_lt (h2 e hee)
        · simp at hee; subst hee; exact Nat.lt_succ_self _
      · rw [Array.toList_push, List.map_append, List.nodup_append]
        refine ⟨h3, by simp, ?_⟩
        intro a ha c hc
        simp at hc
        subst hc
        obtain ⟨e, he1, rfl⟩ := List.mem_map.1 ha
        exact Nat.ne_of_lt (h2 e he1)
      · rcases hop with rfl | rfl <;> simp only [execOp, Instr.mapUpdate, Sem.run_bind, ht.run_und, hq, Result.andThen_ok, ea, eb, ec, run_getMap hb, hk.check, h4, Option.map_none, run_setMap hb, Sem.run_pure]
    | some j =>
      rw [hf] at h4
      obtain ⟨hje, hjk⟩ := setE_idx (v := nv) hf
      have hja : j < arr.size := by
        have : j < arr.toList.length := by rw [hlen]; exact (List.getElem?_eq_some_iff.1 hje.choose_spec.1).1
        simpa using this
      have hkey : ((arr[j]?).map (·.key)).getD (kv k) = kv k := by
        obtain ⟨p, hp, hpk⟩ := hje
        have := congrArg (fun l => l[j]?) h1
        simp only [List.getElem?_map, hp, Option.map_some, Array.getElem?_toList] at this
        obtain ⟨e, he1, he2⟩ := Option.map_eq_some_iff.1 this
        rw [he1]
        simp only [Option.map_some, Option.getD_some]
        rw [(Prod.mk.inj he2).1, hpk]
      have hborn : (arr.modify j fun e => { e with key := kv k, val := v }).toList.map (·.born) = arr.toList.map (·.born) := by
        rw [Array.toList_modify, map_mod (fun e : MapEntry => e.born) (fun e => { e with key := kv k, val := v }) id (fun _ => rfl)]
        apply List.ext_getElem?
        intro q
        rw [List.getElem?_modify]
        split <;> simp
      refine ⟨_, fin (arr.modify j fun e => { e with key := kv k, val := v }) clk ⟨?_, ?_, ?_⟩, ?_⟩
      · rw [Array.toList_modify, map_mod (fun e : MapEntry => (e.key, e.val)) (fun e => { e with key := kv k, val := v }) (fun _ => (kv k, v)) (fun _ => rfl), h1, ← hjk, map_mod (fun p : α × β => (kv p.1, vv p.2)) (fun _ => (k, nv)) (fun _ => (kv k, v)) (fun _ => by rw [hv])]
      · intro e he
        have hx : e.born ∈ (arr.modify j fun e => { e with key := kv k, val := v }).toList.map (·.born) := List.mem_map.2 ⟨e, he, rfl⟩
        rw [hborn] at hx
        obtain ⟨e', he', hee⟩ := List.mem_map.1 hx
        rw [← hee]; exact h2 e' he'
      · rw [hborn]; exact h3
      · rcases hop with rfl | rfl <;> simp only [execOp, Instr.mapUpdate, Sem.run_bind, ht.run_und, hq, Result.andThen_ok, ea, eb, ec, run_getMap hb, hk.check, h4, Option.map_some, hkey, hk.stay, run_setMap hb, Sem.run_pure]) h
theorem TL.mapPut (i : Nat) {v : Value} {nv : β} (hi : Γ[i]? = some (mapA kv vv b es)) (hk : KeyOk cx.P kt kv) (ht : TabOk cx.P mt r) (hq : r.und = .map kt et) (hu : ∃ kd, cx.P.underlying kt = some kd) (ea : ev ρ x = .map (some b)) (eb : ev ρ y = kv k) (ec : ev ρ z = v) (hv : v = vv nv)
    (h : TL cx ops K rest ρ ds (Γ.set i (mapA kv vv b (setE es k nv)))) : TL cx ops K (⟨none, .mapUpdate mt x y z, ty, pos, after, none⟩ :: rest) ρ ds Γ := .mapPutG (.inl rfl) i hi hk ht hq hu ea eb ec hv h
theorem TL.mapIns (i : Nat) {v : Value} {nv : β} (hi : Γ[i]? = some (mapA kv vv b es)) (hk : KeyOk cx.P kt kv) (ht : TabOk cx.P mt r) (hq : r.und = .map kt et) (hu : ∃ kd, cx.P.underlying kt = some kd) (ea : ev ρ x = .map (some b)) (eb : ev ρ y = kv k) (ec : ev ρ z = v) (hv : v = vv nv)
    (h : TL cx ops K rest ρ ds (Γ.set i (mapA kv vv b (setE es k nv)))) : TL cx ops K (⟨none, .insert mt x y z, ty, pos, after, none⟩ :: rest) ρ ds Γ := .mapPutG (.inr rfl) i hi hk ht hq hu ea eb ec hv h
end
end Go.Proofs.Ythbcfamfaicneaa.E
