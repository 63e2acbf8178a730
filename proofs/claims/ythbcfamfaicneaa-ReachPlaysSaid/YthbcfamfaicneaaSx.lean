/- MY OWN LAYER, TENTH PART: strings as lists of bytes, maps. P is a variable. -/
import Derived.Test.YthbcfamfaicneaaSu
namespace Go.Proofs.Ythbcfamfaicneaa.E
open Go Go.RowKit

/-! ### strings -/
/-- The string of these bytes. -/
def S (l : List UInt8) : ByteArray := ⟨l.toArray⟩
theorem S_data (a : ByteArray) : a = S a.data.toList := by cases a; rfl
theorem S_inj {a b : List UInt8} (h : S a = S b) : a = b := by
  have := congrArg (fun x => x.data.toList) h
  simpa [S] using this
theorem bytes_beq (a b : ByteArray) : (a == b) = decide (a = b) := by
  have h : (a == b) = (a.data == b.data) := rfl
  rw [h]
  by_cases e : a = b
  · subst e; simp
  · have : a.data ≠ b.data := fun h => e (ByteArray.ext h)
    simp [e, this]
theorem S_beq (a b : List UInt8) : (S a == S b) = decide (a = b) := by
  rw [bytes_beq]
  by_cases h : a = b
  · simp [h]
  · have : S a ≠ S b := fun e => h (S_inj e)
    simp [h, this]
theorem S_size (a : List UInt8) : (S a).size = a.length := rfl
theorem S_toList (a : List UInt8) : (S a).toList = a := by rw [ByteArray.toList_eq]; rfl
theorem S_append (a b : List UInt8) : S a ++ S b = S (a ++ b) := by
  apply ByteArray.ext
  rw [ByteArray.data_append]
  simp [S]
/-- The bytes as numbers. -/
def bytesV (l : List UInt8) : List Value := l.map fun c => Value.int .u8 (c.toNat : Int)
theorem bytesV_length (l : List UInt8) : (bytesV l).length = l.length := by simp [bytesV]
theorem bytesV_one (l : List UInt8) : ∀ u ∈ bytesV l, u.oneCell' = true := by
  intro u hu
  obtain ⟨x, _, rfl⟩ := List.mem_map.1 hu
  rfl
section
variable {P : Program} {Sw : World → Prop} {ρ : Env} {d : Nat} {ty : TypeId} {pos : String} {after : Array Edge}
theorem PV.eqS {t t' : TypeId} {x y : Operand} {a b : List UInt8} (ea : ev ρ x = .string (S a)) (eb : ev ρ y = .string (S b)) : PV P ρ Sw ⟨some d, .binOp .eql t x y t', ty, pos, after, none⟩ (.bool (decide (a = b))) := fun w hw => by
  have := PV.eqStr (P := P) (S := Sw) (d := d) (ty := ty) (pos := pos) (after := after) (t := t) (t' := t') ea eb w hw
  rw [this, S_toList, S_toList]
  congr 2
  by_cases h : a = b <;> simp [h]
theorem PV.neS {t t' : TypeId} {x y : Operand} {a b : List UInt8} (ea : ev ρ x = .string (S a)) (eb : ev ρ y = .string (S b)) : PV P ρ Sw ⟨some d, .binOp .neq t x y t', ty, pos, after, none⟩ (.bool (!decide (a = b))) := fun w hw => by
  have := PV.neStr (P := P) (S := Sw) (d := d) (ty := ty) (pos := pos) (after := after) (t := t) (t' := t') ea eb w hw
  rw [this, S_toList, S_toList]
  congr 2
  by_cases h : a = b <;> simp [h]
theorem PV.catS {t t' : TypeId} {x y : Operand} {a b : List UInt8} (ea : ev ρ x = .string (S a)) (eb : ev ρ y = .string (S b)) (hs : a.length + b.length ≤ 9223372036854775807) : PV P ρ Sw ⟨some d, .binOp .add t x y t', ty, pos, after, none⟩ (.string (S (a ++ b))) := by
  rw [← S_append]; exact .catStr ea eb hs
theorem PV.lenS {t : TypeId} {x : Operand} {a : List UInt8} {r : TR} (ea : ev ρ x = .string (S a)) (ht : TabOk P t r) (hq : r.und = .string) : PV P ρ Sw ⟨some d, .call ⟨.builtin .len, #[x], #[t]⟩, ty, pos, after, none⟩ (.int .i64 a.length) := .lenStr ea ht hq
theorem PV.indexS {t : TypeId} {x y : Operand} {a : List UInt8} {i : Nat} {c : UInt8} {q : IntKind} {r : TR} (ea : ev ρ x = .string (S a)) (eb : ev ρ y = .int q i) (ht : TabOk P t r) (hq : r.und = .string) (hi : a[i]? = some c) : PV P ρ Sw ⟨some d, .index t x y, ty, pos, after, none⟩ (.int .u8 c.toNat) := by
  have h1 := (List.getElem?_eq_some_iff.1 hi)
  have h2 : i < (S a).size := h1.1
  have : c = (S a)[i]'h2 := by rw [← h1.2]; rfl
  rw [this]
  exact .indexStr ea eb ht hq h2
end
/-- Memory that holds these values first; it is only read. -/
def roB (b : Nat) (vs : List Value) : HP := fun m => ∃ (l : List Value) (e : TypeId) (fr : Nat × Nat), pt b (.cells (vs ++ l).toArray e fr) m
theorem roB_src {b : Nat} {vs : List Value} {m : Mem} (h : roB b vs m) {n : Nat} (hn : n = vs.length) : srcAt 1 (some ⟨b, 0, none⟩) n vs m := by
  obtain ⟨l, e, fr, h⟩ := h
  refine ⟨by omega, .inr ⟨b, 0, rfl, fun j v hj => ⟨(vs ++ l).toArray, e, fr, by rw [h b]; simp, ?_⟩⟩⟩
  have := (List.getElem?_eq_some_iff.1 hj).1
  simp [List.getElem?_append_left this, hj]
section
variable {cx : Cx} {ops : Array Oper} {K : Act → World → Prop} {rest : List Oper} {ρ : Env} {ds : List Deferred} {Γ : List HP} {d : Nat} {ty : TypeId} {pos : String} {after : Array Edge}
/-- []byte(s) -/
theorem TL.convSB {t t' e : TypeId} {x : Operand} {a : List UInt8} {r r' r'' : TR} (hd : Nat.blt d cx.n = true) (ea : ev ρ x = .string (S a)) (ht : TabOk cx.P t r) (ht' : TabOk cx.P t' r') (hq : r'.und = .slice e) (he : TabOk cx.P e r'') (hu : r''.und = .int .u8)
    (h : ∀ b c, a.length ≤ c → TL cx ops K rest ((d, .slice (some ⟨b, 0, none⟩) a.length c) :: ρ) ds (roB b (bytesV a) :: Γ)) : TL cx ops K (⟨some d, .convert t t' x, ty, pos, after, none⟩ :: rest) ρ ds Γ :=
  .act (X := Nat × Nat) (φ := fun p => a.length ≤ p.2) (v := fun p => .slice (some ⟨p.1, 0, none⟩) a.length p.2) (Δ := fun p => roB p.1 (bytesV a) :: Γ) hd (fun w hs => by
    have h1 := Lib.run_convert_string_bytes (P := cx.P) w t t' e (S a) ht.1 (by rw [ht'.1, hq]) (by rw [he.1, hu])
    refine ⟨(w.heap.size, grownCap w (S a).size 0 e), _, grownCap_ge w _ _ e, ?_, by rw [show execOp (ev ρ) ⟨some d, .convert t t' x, ty, pos, after, none⟩ = (do pure (.value (← convert t t' (ev ρ x)))) from rfl, ea]; simp only [Sem.run_bind, h1, Result.andThen_ok]; rfl⟩
    have hnew : Sat cx.E (pt w.heap.size (.cells (Lib.bytesCells w e (S a)) e ((Lib.bytesCells w e (S a)).size, (Lib.bytesCells w e (S a)).size + 1)) :: Γ) (Lib.bytesWorld w e (S a)) :=
      hs.new rfl rfl rfl (by simp) (Lib.bytesWorld_at_new w e (S a)) fun k q hq => by
        have hk : k < w.heap.size := (Array.getElem?_eq_some_iff.1 hq).1
        rw [Lib.bytesWorld_at_old w e (S a) k hk]; exact hq
    refine hnew.imp fun m hm => sep_mono hm (fun q hq => ⟨List.replicate (grownCap w (S a).size 0 e - (S a).size) (.int .u8 0), e, ((Lib.bytesCells w e (S a)).size, (Lib.bytesCells w e (S a)).size + 1), ?_⟩) (fun _ => id)
    have : (bytesV a ++ List.replicate (grownCap w (S a).size 0 e - (S a).size) (Value.int .u8 0)).toArray = Lib.bytesCells w e (S a) := by
      unfold Lib.bytesCells bytesV S
      apply Array.ext'
      simp
    rw [this]; exact hq) (fun p hp => h p.1 p.2 hp)
end
/-! ### maps -/
/-- How keys of a type are told apart. -/
structure KeyOk (P : Program) (kt : TypeId) {α : Type} [DecidableEq α] (kv : α → Value) : Prop where
  find : ∀ (k : α) (L : List MapEntry) (es : List α) (w : World), L.map (·.key) = es.map kv → (Instr.findKey kt (kv k) L).run P w = .ok ((es.findIdx? (fun x => decide (k = x))).map fun j => (j, ((L[j]?).map (·.val)).getD undef)) w
  check : ∀ (k : α) (em : Bool) (w : World), (Instr.checkKey em 10000 kt (kv k)).run P w = .ok () w
  stay : ∀ (k : α) (w : World), (Instr.keyThatStays (kv k) (kv k)).run P w = .ok (kv k) w
theorem findNow_gen {α : Type} [DecidableEq α] {kv : α → Value} {kd : TypeDesc} (hs : ∀ a b, Instr.sameNow kd (kv a) (kv b) = some (decide (a = b))) (k : α) : ∀ (L : List MapEntry) (es : List α) (i : Nat), L.map (·.key) = es.map kv →
    Instr.findNow kd (kv k) L i = some ((es.findIdx? (fun x => decide (k = x))).map fun j => (i + j, ((L[j]?).map (·.val)).getD undef))
  | [], es, i, h => by
    cases es with
    | nil => rfl
    | cons e es => simp at h
  | x :: L, es, i, h => by
    cases es with
    | nil => simp at h
    | cons e es =>
      simp only [List.map_cons, List.cons.injEq] at h
      rw [Instr.findNow, h.1, hs, List.findIdx?_cons]
      by_cases hk : k = e
      · simp [hk]
      · simp only [hk, decide_false]
        rw [findNow_gen hs k L es (i + 1) h.2]
        simp only [Bool.false_eq_true, if_false, Option.map_map]
        congr 2
        funext j
        simp [Nat.add_assoc, Nat.add_comm 1 j]
theorem find_now {P : Program} {kt : TypeId} {α : Type} [DecidableEq α] {kv : α → Value} {kd : TypeDesc} (ht : P.underlying kt = some kd) (hs : ∀ a b, Instr.sameNow kd (kv a) (kv b) = some (decide (a = b))) (k : α) (L : List MapEntry) (es : List α) (w : World) (h : L.map (·.key) = es.map kv) :
    (Instr.findKey kt (kv k) L).run P w = .ok ((es.findIdx? (fun x => decide (k = x))).map fun j => (j, ((L[j]?).map (·.val)).getD undef)) w := by
  simp only [Instr.findKey, Sem.run_bind, run_underlying ht, Result.andThen_ok, findNow_gen hs k L es 0 h]
  simp
def plainKind : TypeDesc → Bool
  | .interface _ | .array _ _ | .struct _ => false
  | _ => true
theorem checkKey_plain {P : Program} {kt : TypeId} {kd : TypeDesc} (ht : P.underlying kt = some kd) (v : Value) (h : plainKind kd = true) (em : Bool) (w : World) : (Instr.checkKey em 10000 kt v).run P w = .ok () w := by
  rw [show (10000 : Nat) = 9999 + 1 from rfl]
  generalize 9999 = n
  simp only [Instr.checkKey, Sem.run_bind, run_underlying ht, Result.andThen_ok]
  cases kd <;> simp [plainKind] at h <;> rfl
theorem keyS {P : Program} {kt : TypeId} (ht : P.underlying kt = some .string) : KeyOk P kt (fun l : List UInt8 => Value.string (S l)) where
  find k L es w h := find_now ht (fun a b => by
      simp only [Instr.sameNow]
      rw [S_beq]) k L es w h
  check k em w := checkKey_plain ht _ rfl em w
  stay k w := by simp [Instr.keyThatStays, Instr.sameBits, S_beq]
theorem keyN {P : Program} {kt : TypeId} {q : IntKind} (ht : P.underlying kt = some (.int q)) : KeyOk P kt (fun n : Int => Value.int q n) where
  find k L es w h := find_now ht (fun a b => by
      simp only [Instr.sameNow, if_true]
      congr 1) k L es w h
  check k em w := checkKey_plain ht _ rfl em w
  stay k w := by simp [Instr.keyThatStays, Instr.sameBits]
/-- A map of one's own: its entries. -/
def mapA {α β : Type} (kv : α → Value) (vv : β → Value) (b : Nat) (es : List (α × β)) : HP := fun m => ∃ (arr : Array MapEntry) (clk : Nat), pt b (.map arr clk) m ∧ arr.toList.map (fun e => (e.key, e.val)) = es.map (fun p => (kv p.1, vv p.2)) ∧ (∀ e ∈ arr.toList, e.born < clk) ∧ (arr.toList.map (·.born)).Nodup
/-- The same, where the entry at j bears this stamp and this value. -/
def mapE {α β : Type} (kv : α → Value) (vv : β → Value) (b : Nat) (es : List (α × β)) (k : α) (z : Value) (j stamp : Nat) : HP := fun m => ∃ (arr : Array MapEntry) (clk : Nat), pt b (.map arr clk) m ∧ j ≤ es.length ∧ arr.toList.map (fun e => (e.key, e.val)) = (es.map (fun p => (kv p.1, vv p.2))).take j ++ (kv k, z) :: (es.map (fun p => (kv p.1, vv p.2))).drop (j + 1) ∧ (∀ e ∈ arr.toList, e.born < clk) ∧ (arr.toList.map (·.born)).Nodup ∧ (arr.toList.map (·.born))[j]? = some stamp
/-- What a map holds. -/
def mapAt {α β : Type} (kv : α → Value) (vv : β → Value) (b : Nat) (es : List (α × β)) : Mem → Prop := fun m => ∃ (arr : Array MapEntry) (clk : Nat), m b = some (.map arr clk) ∧ arr.toList.map (fun e => (e.key, e.val)) = es.map (fun p => (kv p.1, vv p.2))
theorem up_map {α β : Type} (kv : α → Value) (vv : β → Value) (b : Nat) (es : List (α × β)) : Up (mapAt kv vv b es) := fun _ _ hs ⟨arr, clk, h, h2⟩ => ⟨arr, clk, hs _ _ h, h2⟩
theorem mapA_at {α β : Type} {kv : α → Value} {vv : β → Value} {b : Nat} {es : List (α × β)} {m : Mem} (h : mapA kv vv b es m) : mapAt kv vv b es m := by
  obtain ⟨arr, clk, h1, h2, _⟩ := h
  exact ⟨arr, clk, by rw [h1 b]; simp, h2⟩
theorem run_getMap {P : Program} {w : World} {b : Nat} {arr : Array MapEntry} {clk : Nat} (h : w.heap[b]? = some (.map arr clk)) : (getObj b).run P w = .ok (.map arr clk) w := by
  simp [Go.getObj, Sem.run, h]
theorem run_setMap {P : Program} {w : World} {b : Nat} {arr : Array MapEntry} {clk : Nat} (h : w.heap[b]? = some (.map arr clk)) (o : Obj) : (setObj b o).run P w = .ok () { w with heap := w.heap.setIfInBounds b o } := by
  simp [Go.setObj, Sem.run, h]
def lookE {α β : Type} [DecidableEq α] : List (α × β) → α → Option β
  | [], _ => none
  | p :: es, k => if k = p.1 then some p.2 else lookE es k
theorem lookE_find {α β : Type} [DecidableEq α] (vv : β → Value) (k : α) : ∀ (es : List (α × β)) (L : List MapEntry), L.map (·.val) = es.map (fun p => vv p.2) →
    ((es.map (·.1)).findIdx? (fun x => decide (k = x))).map (fun j => ((L[j]?).map (·.val)).getD undef) = (lookE es k).map vv
  | [], L, _ => rfl
  | p :: es, [], h => by simp at h
  | p :: es, x :: L, h => by
    simp only [List.map_cons, List.cons.injEq] at h
    rw [List.map_cons, List.findIdx?_cons, lookE]
    by_cases hk : k = p.1
    · simp [hk, h.1]
    · simp only [hk, decide_false, if_false, Bool.false_eq_true]
      rw [← lookE_find vv k es L h.2, Option.map_map]
      congr 1
theorem run_find {P : Program} {α β : Type} [DecidableEq α] {kv : α → Value} {vv : β → Value} {kt : TypeId} {kd : TypeDesc} (hk : KeyOk P kt kv) (hu : P.underlying kt = some kd) (k : α) {arr : Array MapEntry} {es : List (α × β)} (h : arr.toList.map (fun e => (e.key, e.val)) = es.map (fun p => (kv p.1, vv p.2))) (w : World) :
    (Instr.findKey kt (kv k) arr.toList).run P w = .ok (((es.map (·.1)).findIdx? (fun x => decide (k = x))).map fun j => (j, ((arr.toList[j]?).map (·.val)).getD undef)) w ∧ (((es.map (·.1)).findIdx? (fun x => decide (k = x))).map fun j => ((arr.toList[j]?).map (·.val)).getD undef) = (lookE es k).map vv := by
  have hkeys : arr.toList.map (·.key) = (es.map (·.1)).map kv := by
    have := congrArg (List.map Prod.fst) h
    simpa [List.map_map, Function.comp_def] using this
  have hvals : arr.toList.map (·.val) = es.map (fun p => vv p.2) := by
    have := congrArg (List.map Prod.snd) h
    simpa [List.map_map, Function.comp_def] using this
  refine ⟨?_, lookE_find vv k es arr.toList hvals⟩
  exact hk.find k arr.toList (es.map (·.1)) w hkeys
theorem find_none {α β : Type} [DecidableEq α] {es : List (α × β)} {k : α} (h : lookE es k = none) : (es.map (·.1)).findIdx? (fun x => decide (k = x)) = none := by
  induction es with
  | nil => rfl
  | cons p es ih =>
    simp only [lookE] at h
    split at h
    · cases h
    · rename_i hk
      rw [List.map_cons, List.findIdx?_cons]
      simp [hk]
      intro a b hab
      have := ih h
      simp only [List.findIdx?_eq_none_iff, List.mem_map, decide_eq_false_iff_not] at this
      exact this a ⟨(a, b), hab, rfl⟩
section
variable {P : Program} {E : World} {ρ : Env} {Γ : List HP} {d : Nat} {ty : TypeId} {pos : String} {after : Array Edge} {α β : Type} [DecidableEq α] {kv : α → Value} {vv : β → Value} {mt kt et : TypeId} {x y : Operand} {b : Nat} {k : α} {es : List (α × β)} {r r' : TR}
theorem run_look (hk : KeyOk P kt kv) (ht : TabOk P mt r) (hq : r.und = .map kt et) (hu : ∃ kd, P.underlying kt = some kd) (he : TabOk P et r') (hm : has Γ (mapAt kv vv b es)) (c : Bool) {w : World} (hs : Sat E Γ w) :
    (Instr.lookup mt (.map (some b)) (kv k) c).run P w = .ok (let p : Value × Bool := match lookE es k with | some v => (vv v, true) | none => (r'.zero, false); if c then .tuple #[p.1, .bool p.2] else p.1) w := by
  obtain ⟨_, _, m, hm', hw⟩ := hs
  obtain ⟨arr, clk, h1, h2⟩ := hm m hm'
  obtain ⟨kd, hu⟩ := hu
  have h3 := run_getMap (P := P) (hw _ _ h1)
  obtain ⟨h4, h5⟩ := run_find (P := P) hk hu k h2 w
  simp only [Instr.lookup, Sem.run_bind, ht.run_und, hq, Result.andThen_ok, h3, Sem.run_pure, hk.check, h4]
  cases hf : (es.map (·.1)).findIdx? (fun x => decide (k = x)) with
  | none =>
    rw [hf] at h5
    have h6 : lookE es k = none := by simpa using h5.symm
    rw [h6]
    simp only [Option.map_none, Sem.run_bind, he.run_zero, Result.andThen_ok, Sem.run_pure]
  | some j =>
    rw [hf] at h5
    simp only [Option.map_some] at h5
    obtain ⟨v, hv, hv2⟩ := Option.map_eq_some_iff.1 h5.symm
    rw [hv]
    simp only [Option.map_some, Sem.run_bind, Sem.run_pure, Result.andThen_ok, hv2]
theorem PV.look2S (hk : KeyOk P kt kv) (ht : TabOk P mt r) (hq : r.und = .map kt et) (hu : ∃ kd, P.underlying kt = some kd) (he : TabOk P et r') (ea : ev ρ x = .map (some b)) (eb : ev ρ y = kv k) (hm : has Γ (mapAt kv vv b es)) {v : β} (hv : lookE es k = some v) : PV P ρ (Sat E Γ) ⟨some d, .lookup mt x y true, ty, pos, after, none⟩ (.tuple #[vv v, .bool true]) := fun w hs => by
  have := run_look hk ht hq hu he hm true hs (k := k) (b := b)
  rw [hv] at this
  simp [execOp, ea, eb, this]
theorem PV.look2N (hk : KeyOk P kt kv) (ht : TabOk P mt r) (hq : r.und = .map kt et) (hu : ∃ kd, P.underlying kt = some kd) (he : TabOk P et r') (ea : ev ρ x = .map (some b)) (eb : ev ρ y = kv k) (hm : has Γ (mapAt kv vv b es)) (hv : lookE es k = none) : PV P ρ (Sat E Γ) ⟨some d, .lookup mt x y true, ty, pos, after, none⟩ (.tuple #[r'.zero, .bool false]) := fun w hs => by
  have := run_look hk ht hq hu he hm true hs (k := k) (b := b)
  rw [hv] at this
  simp [execOp, ea, eb, this]
theorem PV.look1S (hk : KeyOk P kt kv) (ht : TabOk P mt r) (hq : r.und = .map kt et) (hu : ∃ kd, P.underlying kt = some kd) (he : TabOk P et r') (ea : ev ρ x = .map (some b)) (eb : ev ρ y = kv k) (hm : has Γ (mapAt kv vv b es)) {v : β} (hv : lookE es k = some v) : PV P ρ (Sat E Γ) ⟨some d, .lookup mt x y false, ty, pos, after, none⟩ (vv v) := fun w hs => by
  have := run_look hk ht hq hu he hm false hs (k := k) (b := b)
  rw [hv] at this
  simp [execOp, ea, eb, this]
theorem PV.look1N (hk : KeyOk P kt kv) (ht : TabOk P mt r) (hq : r.und = .map kt et) (hu : ∃ kd, P.underlying kt = some kd) (he : TabOk P et r') (ea : ev ρ x = .map (some b)) (eb : ev ρ y = kv k) (hm : has Γ (mapAt kv vv b es)) (hv : lookE es k = none) : PV P ρ (Sat E Γ) ⟨some d, .lookup mt x y false, ty, pos, after, none⟩ r'.zero := fun w hs => by
  have := run_look hk ht hq hu he hm false hs (k := k) (b := b)
  rw [hv] at this
  simp [execOp, ea, eb, this]
end
section
variable {cx : Cx} {ops : Array Oper} {K : Act → World → Prop} {rest : List Oper} {ρ : Env} {ds : List Deferred} {Γ : List HP} {d : Nat} {ty : TypeId} {pos : String} {after : Array Edge} {α β : Type} [DecidableEq α] {kv : α → Value} {vv : β → Value} {mt kt et : TypeId} {x y z : Operand} {b : Nat} {k : α} {es : List (α × β)} {r r' : TR}
omit [DecidableEq α] in
theorem TL.makeMap (kv : α → Value) (vv : β → Value) (hd : Nat.blt d cx.n = true) (h : ∀ b, TL cx ops K rest ((d, .map (some b)) :: ρ) ds (mapA kv vv b [] :: Γ)) : TL cx ops K (⟨some d, .makeMap mt none, ty, pos, after, none⟩ :: rest) ρ ds Γ :=
  .act (X := Nat) (φ := fun _ => True) (v := fun b => .map (some b)) (Δ := fun b => mapA kv vv b [] :: Γ) hd (fun w hs => ⟨w.heap.size, _, trivial, (hs.alloc (.map #[] 0)).imp fun m hm => sep_mono hm (fun q hq => ⟨#[], 0, hq, rfl, by simp, by simp⟩) (fun _ => id), by
    simp [execOp, Instr.makeMap, newObj, Sem.run]⟩) (fun b _ => h b)
/-- A new key: its entry, with the zero value; the stamp is told. -/
theorem TL.entryNew (i : Nat) (hi : Γ[i]? = some (mapA kv vv b es)) (hd : Nat.blt d cx.n = true) (hk : KeyOk cx.P kt kv) (ht : TabOk cx.P mt r) (hq : r.und = .map kt et) (hu : ∃ kd, cx.P.underlying kt = some kd) (he : TabOk cx.P et r') (ea : ev ρ x = .map (some b)) (eb : ev ρ y = kv k) (hl : lookE es k = none)
    (h : ∀ s : Nat, TL cx ops K rest ((d, .tuple #[r'.zero, .int .i64 s]) :: ρ) ds (Γ.set i (mapE kv vv b es k r'.zero es.length s))) : TL cx ops K (⟨some d, .mapEntry mt x y, ty, pos, after, none⟩ :: rest) ρ ds Γ :=
  .act (X := Nat) (φ := fun _ => True) (v := fun s => .tuple #[r'.zero, .int .i64 s]) (Δ := fun s => Γ.set i (mapE kv vv b es k r'.zero es.length s)) hd (fun w hs => by
    obtain ⟨⟨arr, clk⟩, ⟨h1, h2, h3⟩, hs1⟩ := hs.at hi (X := Array MapEntry × Nat) (φ := fun p => p.1.toList.map (fun e => (e.key, e.val)) = es.map (fun p => (kv p.1, vv p.2)) ∧ (∀ e ∈ p.1.toList, e.born < p.2) ∧ (p.1.toList.map (·.born)).Nodup) (K := fun p => pt b (.map p.1 p.2)) (fun m ⟨arr, clk, h0, h1⟩ => ⟨(arr, clk), h1, h0⟩)
    have hi1 : (Γ.set i (pt b (.map arr clk)))[i]? = some (pt b (.map arr clk)) := by
      have := (List.getElem?_eq_some_iff.1 hi).1
      simp [this]
    have hb := hs1.block hi1
    obtain ⟨kd, hu⟩ := hu
    obtain ⟨h4, _⟩ := run_find (P := cx.P) hk hu k h1 w
    rw [find_none hl] at h4
    refine ⟨clk, { w with heap := w.heap.setIfInBounds b (.map (arr.push { key := kv k, val := r'.zero, born := clk }) (clk + 1)) }, trivial, ?_, ?_⟩
    · have hlt : b < w.heap.size := (Array.getElem?_eq_some_iff.1 hb).1
      have hput := hs1.put (w' := { w with heap := w.heap.setIfInBounds b (.map (arr.push { key := kv k, val := r'.zero, born := clk }) (clk + 1)) }) hi1 (o' := .map (arr.push { key := kv k, val := r'.zero, born := clk }) (clk + 1)) rfl rfl rfl (by simp [hlt]) (fun q hq o ho => by rw [heap_set w b q _ hq]; exact ho)
      simp only [List.set_set] at hput
      have hi2 : (Γ.set i (pt b (.map (arr.push { key := kv k, val := r'.zero, born := clk }) (clk + 1))))[i]? = some (pt b (.map (arr.push { key := kv k, val := r'.zero, born := clk }) (clk + 1))) := by
        have := (List.getElem?_eq_some_iff.1 hi).1
        simp [this]
      have hlen : arr.toList.length = es.length := by simpa using congrArg List.length h1
      have := hput.imp fun m hm => all_set (K := mapE kv vv b es k r'.zero es.length clk) hi2 (fun m' hm' => ⟨_, _, hm', Nat.le_refl _, ?_, ?_, ?_, ?_⟩) hm
      · simpa only [List.set_set] using this
      · rw [Array.toList_push, List.map_append, h1, List.take_of_length_le (by simp), List.drop_of_length_le (by simp)]; rfl
      · intro e hee
        rw [Array.toList_push, List.mem_append] at hee
        rcases hee with hee | hee
        · exact Nat.lt_succ_of_lt (h2 e hee)
        · simp at hee; subst hee; exact Nat.lt_succ_self _
      · rw [Array.toList_push, List.map_append, List.nodup_append]
        refine ⟨h3, by simp, ?_⟩
        intro a ha c hc
        simp at hc
        subst hc
        obtain ⟨e, he1, rfl⟩ := List.mem_map.1 ha
        exact Nat.ne_of_lt (h2 e he1)
      · rw [Array.toList_push, List.map_append, List.getElem?_append_right (by simpa using Nat.le_of_eq hlen)]
        simp at hlen
        simp [hlen]
    · simp only [execOp, Instr.mapEntry, Sem.run_bind, ht.run_und, hq, Result.andThen_ok, ea, eb, run_getMap hb, hk.check, h4, Option.map_none, he.run_zero, run_setMap hb]
      simp [goInt]) (fun s _ => h s)
omit [DecidableEq α] in
theorem find_born (s : Nat) : ∀ (L : List MapEntry) (j : Nat), (L.map (·.born)).Nodup → (L.map (·.born))[j]? = some s → L.findIdx? (fun e => (e.born : Int) == (s : Int)) = some j
  | [], j, _, h => by simp at h
  | e :: L, 0, _, h => by simp at h; simp [List.findIdx?_cons, h]
  | e :: L, j + 1, hn, h => by
    simp only [List.map_cons, List.nodup_cons] at hn
    simp only [List.map_cons, List.getElem?_cons_succ] at h
    have hne : e.born ≠ s := fun he => hn.1 (he ▸ List.mem_of_getElem? h)
    have hb : ((e.born : Int) == (s : Int)) = false := by simp; omega
    rw [List.findIdx?_cons, hb, find_born s L j hn.2 h]
    rfl
theorem list_mod {γ : Type} (f : γ → γ) (x : γ) (B : List γ) : ∀ A : List γ, (A ++ x :: B).modify A.length f = A ++ f x :: B
  | [] => rfl
  | a :: A => by simp [list_mod f x B A]
theorem map_mod {γ δ : Type} (g : γ → δ) (f : γ → γ) (f' : δ → δ) (hf : ∀ x, g (f x) = f' (g x)) : ∀ (L : List γ) (j : Nat), (L.modify j f).map g = (L.map g).modify j f'
  | [], j => by simp
  | a :: L, 0 => by simp [hf]
  | a :: L, j + 1 => by simp [map_mod g f f' hf L j]
omit [DecidableEq α] in
/-- The entry gets its value. -/
theorem TL.entryPut (i : Nat) {zv v : Value} {j s : Nat} {nv : β} (hi : Γ[i]? = some (mapE kv vv b es k zv j s)) (ea : ev ρ x = .map (some b)) (eb : ev ρ y = .int .i64 s) (ec : ev ρ z = v) (hv : v = vv nv)
    (h : TL cx ops K rest ρ ds (Γ.set i (mapA kv vv b (es.take j ++ (k, nv) :: es.drop (j + 1))))) : TL cx ops K (⟨none, .entryStore mt x y z, ty, pos, after, none⟩ :: rest) ρ ds Γ :=
  .act0 (fun w hs => by
    obtain ⟨⟨arr, clk⟩, ⟨h0, h1, h2, h3, h4⟩, hs1⟩ := hs.at hi (X := Array MapEntry × Nat) (φ := fun p => j ≤ es.length ∧ p.1.toList.map (fun e => (e.key, e.val)) = (es.map (fun p => (kv p.1, vv p.2))).take j ++ (kv k, zv) :: (es.map (fun p => (kv p.1, vv p.2))).drop (j + 1) ∧ (∀ e ∈ p.1.toList, e.born < p.2) ∧ (p.1.toList.map (·.born)).Nodup ∧ (p.1.toList.map (·.born))[j]? = some s) (K := fun p => pt b (.map p.1 p.2)) (fun m ⟨arr, clk, h0, h1⟩ => ⟨(arr, clk), h1, h0⟩)
    have hi1 : (Γ.set i (pt b (.map arr clk)))[i]? = some (pt b (.map arr clk)) := by
      have := (List.getElem?_eq_some_iff.1 hi).1
      simp [this]
    have hb := hs1.block hi1
    have hfind : arr.findIdx? (fun e => (e.born : Int) == (s : Int)) = some j := by
      have := find_born s arr.toList j h3 h4
      rw [← this]; clear this; cases arr; simp
    have hj : j = ((es.map (fun p => (kv p.1, vv p.2))).take j).length := by simp; omega
    refine ⟨{ w with heap := w.heap.setIfInBounds b (.map (arr.modify j fun e => { e with val := v }) clk) }, ?_, ?_⟩
    · have hlt : b < w.heap.size := (Array.getElem?_eq_some_iff.1 hb).1
      have hput := hs1.put (w' := { w with heap := w.heap.setIfInBounds b (.map (arr.modify j fun e => { e with val := v }) clk) }) hi1 (o' := .map (arr.modify j fun e => { e with val := v }) clk) rfl rfl rfl (by simp [hlt]) (fun q hq o ho => by rw [heap_set w b q _ hq]; exact ho)
      simp only [List.set_set] at hput
      have hi2 : (Γ.set i (pt b (.map (arr.modify j fun e => { e with val := v }) clk)))[i]? = some (pt b (.map (arr.modify j fun e => { e with val := v }) clk)) := by
        have := (List.getElem?_eq_some_iff.1 hi).1
        simp [this]
      have hborn : (arr.modify j fun e => { e with val := v }).toList.map (·.born) = arr.toList.map (·.born) := by
        rw [Array.toList_modify, map_mod (fun e : MapEntry => e.born) (fun e => { e with val := v }) id (fun _ => rfl)]
        apply List.ext_getElem?
        intro q
        rw [List.getElem?_modify]
        split <;> simp
      have := hput.imp fun m hm => all_set (K := mapA kv vv b (es.take j ++ (k, nv) :: es.drop (j + 1))) hi2 (fun m' hm' => ⟨_, _, hm', ?_, ?_, ?_⟩) hm
      · simpa only [List.set_set] using this
      · rw [Array.toList_modify, map_mod (fun e : MapEntry => (e.key, e.val)) (fun e => { e with val := v }) (fun p => (p.1, v)) (fun _ => rfl), h1]
        have h5 := list_mod (fun p : Value × Value => (p.1, v)) (kv k, zv) ((es.map (fun p => (kv p.1, vv p.2))).drop (j + 1)) ((es.map (fun p => (kv p.1, vv p.2))).take j)
        rw [← hj] at h5
        rw [h5, hv, List.map_append, List.map_cons, List.map_take, List.map_drop]
      · intro e he
        have hx : e.born ∈ (arr.modify j fun e => { e with val := v }).toList.map (·.born) := List.mem_map.2 ⟨e, he, rfl⟩
        rw [hborn] at hx
        obtain ⟨e', he', hee⟩ := List.mem_map.1 hx
        rw [← hee]; exact h2 e' he'
      · rw [hborn]; exact h3
    · simp only [execOp, Instr.entryStore, Sem.run_bind, ea, eb, ec, run_getMap hb, Result.andThen_ok, asInt, asIntOf, Sem.run_pure, hfind, run_setMap hb]) h
end
end Go.Proofs.Ythbcfamfaicneaa.E
