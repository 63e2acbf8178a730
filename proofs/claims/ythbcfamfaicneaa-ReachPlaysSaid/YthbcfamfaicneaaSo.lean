/- MY OWN LAYER, THIRD PART: a rule for each kind of operation. P is a variable. -/
import Derived.Test.YthbcfamfaicneaaSw
import Derived.Deep.Quiet
namespace Go.Proofs.Ythbcfamfaicneaa.E
open Go Go.RowKit

/-- What the walk needs of a type: its shape, its cells, its bytes, its zero value. -/
structure TR where
  und : TypeDesc
  size : Nat
  bytes : Nat
  zero : Value
def TabOk (P : Program) (t : TypeId) (r : TR) : Prop := P.underlying t = some r.und ∧ ∃ i, P.info? t = some i ∧ i.size = r.size ∧ i.bytes = r.bytes ∧ i.zero = some r.zero
theorem tabOk_of {P : Program} {tab : List TR} (h : (List.range tab.length).map (fun t => (P.underlying t, (P.info? t).map fun i => (i.size, i.bytes, i.zero))) = tab.map (fun r => (some r.und, some (r.size, r.bytes, some r.zero))))
    {t : Nat} {r : TR} (ht : tab[t]? = some r) : TabOk P t r := by
  have h1 := congrArg (fun l => l[t]?) h
  have hlt : t < tab.length := (List.getElem?_eq_some_iff.1 ht).1
  simp only [List.getElem?_map, ht, List.getElem?_range hlt, Option.map_some, Option.some.injEq, Prod.mk.injEq] at h1
  obtain ⟨h2, h3⟩ := h1
  obtain ⟨i, hi, h4⟩ := Option.map_eq_some_iff.1 h3
  simp only [Prod.mk.injEq] at h4
  exact ⟨h2, i, hi, h4⟩
theorem TabOk.run_und {P : Program} {t : TypeId} {r : TR} (h : TabOk P t r) (w : World) : (underlying t).run P w = .ok r.und w := run_underlying h.1 w
theorem TabOk.run_size {P : Program} {t : TypeId} {r : TR} (h : TabOk P t r) (w : World) : (sizeOf t).run P w = .ok r.size w := by
  obtain ⟨_, i, hi, hs, _⟩ := h
  simp [sizeOf, typeInfo, hi, hs]
theorem TabOk.run_zero {P : Program} {t : TypeId} {r : TR} (h : TabOk P t r) (w : World) : (zeroValue t).run P w = .ok r.zero w := by
  obtain ⟨_, i, hi, _, _, hz⟩ := h
  simp [zeroValue, typeInfo, hi, hz]
def isAggD : TypeDesc → Bool
  | .struct _ | .array _ _ => true
  | _ => false
theorem TabOk.run_agg {P : Program} {t : TypeId} {r : TR} (h : TabOk P t r) (w : World) : (isAgg t).run P w = .ok (isAggD r.und) w := by
  simp only [isAgg, Sem.run_bind, h.run_und, Result.andThen_ok]
  cases r.und <;> rfl
theorem add_at (b o j : Nat) : (⟨b, o, none⟩ : Addr).add j = ⟨b, o + j, none⟩ := by unfold Addr.add; split <;> simp_all

theorem ev_const (ρ : Env) (v : Value) : ev ρ (.const v) = v := rfl
/-- A row of cells in a block of one's own. -/
def row (b : Nat) (l : List Value) (e : TypeId) : HP := pt b (.cells l.toArray e (0, 0))
theorem has_row {Γ : List HP} {b o : Nat} {l : List Value} {e : TypeId} {v : Value} (i : Nat) (hi : Γ[i]? = some (row b l e)) (hv : l[o]? = some v) : has Γ (fun m => cellAt m b o v) :=
  has_at (up_cell _ _ _) i hi fun m hm => ⟨l.toArray, e, (0, 0), by rw [hm b]; simp, by simpa using hv⟩
/-- Cells one behind the other. -/
def cellsAt (m : Mem) (b o : Nat) (vs : List Value) : Prop := ∀ j v, vs[j]? = some v → cellAt m b (o + j) v
theorem up_cells (b o : Nat) (vs : List Value) : Up (fun m => cellsAt m b o vs) := fun x y hs h j v hv => up_cell _ _ _ x y hs (h j v hv)
theorem has_tlc {Γ : List HP} {K : HP} {b o : Nat} {v : Value} (h : has Γ (fun m => cellAt m b o v)) : has (K :: Γ) (fun m => cellAt m b o v) := has_tail (up_cell _ _ _) h
theorem has_tlg {Γ : List HP} {K : HP} {b o : Nat} {vs : List Value} (h : has Γ (fun m => cellsAt m b o vs)) : has (K :: Γ) (fun m => cellsAt m b o vs) := has_tail (up_cells _ _ _) h
theorem has_rows {Γ : List HP} {b o : Nat} {l : List Value} {e : TypeId} {vs : List Value} (i : Nat) (hi : Γ[i]? = some (row b l e)) (hv : (l.drop o).take vs.length = vs) : has Γ (fun m => cellsAt m b o vs) :=
  has_at (up_cells _ _ _) i hi fun m hm j v hj => ⟨l.toArray, e, (0, 0), by rw [hm b]; simp, by
    rw [← hv] at hj
    simp [List.getElem?_take] at hj
    simpa using hj.2⟩

/-- An operation that yields this value, and nothing else, in every world of S. -/
def PV (P : Program) (ρ : Env) (S : World → Prop) (o : Oper) (v : Value) : Prop := ∀ w, S w → (execOp (ev ρ) o).run P w = .ok (.value v) w
section
variable {P : Program} {S : World → Prop} {ρ : Env} {d : Nat} {ty : TypeId} {pos : String} {after : Array Edge}

/-! ### copies, choices -/
theorem PV.move {x : Operand} : PV P ρ S ⟨some d, .move x, ty, pos, after, none⟩ (ev ρ x) := fun _ _ => rfl
theorem PV.assign {x : Operand} : PV P ρ S ⟨some d, .assign x, ty, pos, after, none⟩ (ev ρ x) := fun _ _ => rfl
theorem PV.pick {c x y : Operand} {t : Bool}  (e : ev ρ c = .bool t) : PV P ρ S ⟨some d, .pick c x y, ty, pos, after, none⟩ (if t then ev ρ x else ev ρ y) := fun _ _ => by simp only [execOp, e]; rfl
theorem PV.moveE {x : Operand} {v : Value}  (e : ev ρ x = v) : PV P ρ S ⟨some d, .move x, ty, pos, after, none⟩ (v) := fun _ _ => by rw [← e]; rfl
theorem PV.assignE {x : Operand} {v : Value}  (e : ev ρ x = v) : PV P ρ S ⟨some d, .assign x, ty, pos, after, none⟩ (v) := fun _ _ => by rw [← e]; rfl
theorem PV.pickE {c x y : Operand} {t : Bool} {v : Value} (e : ev ρ c = .bool t) (e' : (bif t then ev ρ x else ev ρ y) = v) : PV P ρ S ⟨some d, .pick c x y, ty, pos, after, none⟩ v := fun _ _ => by
  simp only [execOp, e]; cases t <;> (rw [← e']; rfl)
theorem PV.extract {x : Operand} {i : Nat} {vs : List Value} {v : Value} (e : ev ρ x = .tuple vs.toArray) (hv : vs[i]? = some v) : PV P ρ S ⟨some d, .extract x i, ty, pos, after, none⟩ v := fun _ _ => by simp [execOp, e, Instr.extract, hv]
theorem PV.nilCheck {x : Operand} {a : Addr}  (e : ev ρ x = .pointer (some a)) : PV P ρ S ⟨some d, .nilCheck x, ty, pos, after, none⟩ (.pointer (some a)) := fun _ _ => by simp [execOp, e]
theorem PV.nilCheck_func {x : Operand} {f : FuncId} {c1 c2 : Array Value}  (e : ev ρ x = .func (.func f) c1 c2) : PV P ρ S ⟨some d, .nilCheck x, ty, pos, after, none⟩ (.func (.func f) c1 c2) := fun _ _ => by simp [execOp, e]

/-! ### numbers -/
def arith (op : BinOp) (a b : Int) : Option Int := match op with | .add => some (a + b) | .sub => some (a - b) | .mul => some (a * b) | _ => none
theorem PV.arith {op : BinOp} {t t' : TypeId} {x y : Operand} {q : IntKind} {a b c : Int}  (ea : ev ρ x = .int q a) (eb : ev ρ y = .int q b) (hc : arith op a b = some c) : PV P ρ S ⟨some d, .binOp op t x y t', ty, pos, after, none⟩ (.int q (q.wrap c)) := fun w _ => by
    simp only [execOp, ea, eb, eqGuard]
    cases op <;> simp [E.arith] at hc <;> subst hc <;> simp [binOp, Op.intArith]
def compare (op : BinOp) (a b : Int) : Option Bool := match op with | .eql => some (a == b) | .neq => some (a != b) | .lss => some (decide (a < b)) | .leq => some (decide (a ≤ b)) | .gtr => some (decide (b < a)) | .geq => some (decide (b ≤ a)) | _ => none
theorem PV.compare {op : BinOp} {t t' : TypeId} {x y : Operand} {q : IntKind} {a b : Int} {c : Bool}  (ea : ev ρ x = .int q a) (eb : ev ρ y = .int q b) (hc : compare op a b = some c) : PV P ρ S ⟨some d, .binOp op t x y t', ty, pos, after, none⟩ (.bool c) := fun w _ => by
    simp only [execOp, ea, eb]
    cases op <;> simp [E.compare] at hc <;> subst hc <;> simp [eqGuard, binOp, Op.intCmp]
theorem PV.rem {t t' : TypeId} {x y : Operand} {q : IntKind} {a b : Int}  (ea : ev ρ x = .int q a) (eb : ev ρ y = .int q b) (hb : b ≠ 0) : PV P ρ S ⟨some d, .binOp .rem t x y t', ty, pos, after, none⟩ (.int q (a.tmod b)) := fun w _ => by simp [execOp, ea, eb, eqGuard, binOp, Op.intDiv, hb]
theorem PV.remN {t t' : TypeId} {x y : Operand} {q : IntKind} {n m : Nat} {b : Int}  (ea : ev ρ x = .int q (n : Int)) (eb : ev ρ y = .int q b) (hb : b = (m : Int)) (hm : m ≠ 0) : PV P ρ S ⟨some d, .binOp .rem t x y t', ty, pos, after, none⟩ (.int q ((n % m : Nat) : Int)) := fun w hw => by
    subst hb
    have := PV.rem (P := P) (S := S) (d := d) (ty := ty) (pos := pos) (after := after) (t := t) (t' := t') (a := (n : Int)) (b := (m : Int)) ea eb (by omega) w hw
    rw [this]; rfl
theorem PV.quo {t t' : TypeId} {x y : Operand} {q : IntKind} {a b : Int}  (ea : ev ρ x = .int q a) (eb : ev ρ y = .int q b) (hb : b ≠ 0) : PV P ρ S ⟨some d, .binOp .quo t x y t', ty, pos, after, none⟩ (.int q (q.wrap (a.tdiv b))) := fun w _ => by simp [execOp, ea, eb, eqGuard, binOp, Op.intDiv, hb]
/-- The bits of two numbers, put together: as a number. -/
def bitsOf (op : BinOp) (q : IntKind) (a b : Int) : Int := match op with
  | .and => q.wrap (BitVec.ofInt q.bits a &&& BitVec.ofInt q.bits b).toNat
  | .or => q.wrap (BitVec.ofInt q.bits a ||| BitVec.ofInt q.bits b).toNat
  | .xor => q.wrap (BitVec.ofInt q.bits a ^^^ BitVec.ofInt q.bits b).toNat
  | _ => q.wrap (BitVec.ofInt q.bits a &&& ~~~BitVec.ofInt q.bits b).toNat
def isBits : BinOp → Bool | .and | .or | .xor | .andNot => true | _ => false
theorem PV.bits {op : BinOp} {t t' : TypeId} {x y : Operand} {q : IntKind} {a b : Int}  (hop : isBits op = true) (ea : ev ρ x = .int q a) (eb : ev ρ y = .int q b) : PV P ρ S ⟨some d, .binOp op t x y t', ty, pos, after, none⟩ (.int q (bitsOf op q a b)) := fun w _ => by
    simp only [execOp, ea, eb, eqGuard]
    cases op <;> simp [isBits] at hop <;> simp [binOp, Op.intBits, bitsOf]
theorem PV.shl {t t' : TypeId} {x y : Operand} {q q' : IntKind} {a b : Int}  (ea : ev ρ x = .int q a) (eb : ev ρ y = .int q' b) (hb : 0 ≤ b) : PV P ρ S ⟨some d, .binOp .shl t x y t', ty, pos, after, none⟩ (.int q (q.wrap (a * 2 ^ (min b.toNat q.bits)))) := fun w _ => by simp [execOp, ea, eb, eqGuard, binOp, Op.shift, Int.not_lt.2 hb]
theorem PV.shr {t t' : TypeId} {x y : Operand} {q q' : IntKind} {a b : Int}  (ea : ev ρ x = .int q a) (eb : ev ρ y = .int q' b) (hb : 0 ≤ b) : PV P ρ S ⟨some d, .binOp .shr t x y t', ty, pos, after, none⟩ (.int q (a.fdiv (2 ^ (min b.toNat q.bits)))) := fun w _ => by simp [execOp, ea, eb, eqGuard, binOp, Op.shift, Int.not_lt.2 hb]
theorem PV.neg {t : TypeId} {x : Operand} {q : IntKind} {a : Int}  (ea : ev ρ x = .int q a) : PV P ρ S ⟨some d, .unOp .neg t x, ty, pos, after, none⟩ (.int q (q.wrap (0 - a))) := fun w _ => by simp [execOp, ea, Op.unary, Op.intArith]
theorem PV.compl {t : TypeId} {x : Operand} {q : IntKind} {a : Int}  (ea : ev ρ x = .int q a) : PV P ρ S ⟨some d, .unOp .xor t x, ty, pos, after, none⟩ (.int q (bitsOf .xor q (if q.signed then -1 else q.max) a)) := fun w _ => by simp [execOp, ea, Op.unary, Op.intBits, bitsOf]
theorem PV.not {t : TypeId} {x : Operand} {a : Bool}  (ea : ev ρ x = .bool a) : PV P ρ S ⟨some d, .unOp .not t x, ty, pos, after, none⟩ (.bool (!a)) := fun w _ => by simp [execOp, ea, Op.unary]
theorem PV.conv {t t' : TypeId} {x : Operand} {q q' : IntKind} {a : Int} {r r' : TR}  (ea : ev ρ x = .int q a) (ht : TabOk P t r) (ht' : TabOk P t' r') (hq : r'.und = .int q') : PV P ρ S ⟨some d, .convert t t' x, ty, pos, after, none⟩ (.int q' (q'.wrap a)) := fun w _ => by simp [execOp, ea, convert, ht.run_und, ht'.run_und, hq, Conv.intToInt]
/-! ### bools, pointers, slices against nil -/
theorem equal_succ (t : TypeId) (x y : Value) : Op.equal t x y = Op.equalIn (9999 + 1) t x y := rfl
theorem run_eql_bool {t : TypeId} {r : TR} (ht : TabOk P t r) (hq : r.und = .bool) (a b : Bool) (w : World) : (Op.equal t (.bool a) (.bool b)).run P w = .ok (a == b) w := by
  rw [equal_succ]
  generalize 9999 = n
  simp only [Op.equalIn, Sem.run_bind, ht.run_und, Result.andThen_ok, hq]
  rfl
theorem PV.eqBool {t t' : TypeId} {x y : Operand} {a b : Bool} {r : TR}  (ea : ev ρ x = .bool a) (eb : ev ρ y = .bool b) (ht : TabOk P t r) (hq : r.und = .bool) : PV P ρ S ⟨some d, .binOp .eql t x y t', ty, pos, after, none⟩ (.bool (a == b)) := fun w _ => by simp [execOp, ea, eb, eqGuard, binOp, run_eql_bool ht hq]
theorem PV.neBool {t t' : TypeId} {x y : Operand} {a b : Bool} {r : TR}  (ea : ev ρ x = .bool a) (eb : ev ρ y = .bool b) (ht : TabOk P t r) (hq : r.und = .bool) : PV P ρ S ⟨some d, .binOp .neq t x y t', ty, pos, after, none⟩ (.bool (a != b)) := fun w _ => by simp [execOp, ea, eb, eqGuard, binOp, run_eql_bool ht hq, bne]
/-! ### against nil -/
theorem run_eql_ptr {t e : TypeId} {r : TR} (ht : TabOk P t r) (hq : r.und = .pointer e) (v : Option Addr) (w : World) : (Op.equal t (.pointer v) (.pointer none)).run P w = .ok v.isNone w := by
  rw [equal_succ]
  generalize 9999 = n
  simp only [Op.equalIn, Sem.run_bind, ht.run_und, Result.andThen_ok, hq]
  cases v <;> rfl
theorem run_eql_slice {t e : TypeId} {r : TR} (ht : TabOk P t r) (hq : r.und = .slice e) (v : Option Addr) (l c : Nat) (w : World) : (Op.equal t (.slice v l c) (.slice none 0 0)).run P w = .ok v.isNone w := by
  rw [equal_succ]
  generalize 9999 = n
  simp only [Op.equalIn, Sem.run_bind, ht.run_und, Result.andThen_ok, hq]
  cases v <;> rfl
theorem run_eql_map {t e e' : TypeId} {r : TR} (ht : TabOk P t r) (hq : r.und = .map e e') (v : Option Nat) (w : World) : (Op.equal t (.map v) (.map none)).run P w = .ok v.isNone w := by
  rw [equal_succ]
  generalize 9999 = n
  simp only [Op.equalIn, Sem.run_bind, ht.run_und, Result.andThen_ok, hq]
  cases v <;> rfl
theorem run_eql_iface {t tx : TypeId} {ms : Array (String × TypeId)} {r : TR} (ht : TabOk P t r) (hq : r.und = .interface ms) (v : Value) (w : World) : (Op.equal t (.iface tx v) .nilIface).run P w = .ok false w := by
  rw [equal_succ]
  generalize 9999 = n
  simp only [Op.equalIn, Sem.run_bind, ht.run_und, Result.andThen_ok, hq]
  rfl
theorem run_eql_iface_nil {t : TypeId} {ms : Array (String × TypeId)} {r : TR} (ht : TabOk P t r) (hq : r.und = .interface ms) (w : World) : (Op.equal t .nilIface .nilIface).run P w = .ok true w := by
  rw [equal_succ]
  generalize 9999 = n
  simp only [Op.equalIn, Sem.run_bind, ht.run_und, Result.andThen_ok, hq]
  rfl
theorem PV.eqPtr {t t' e : TypeId} {x : Operand} {v : Option Addr} {r : TR}  (ea : ev ρ x = .pointer v) (ht : TabOk P t r) (hq : r.und = .pointer e) : PV P ρ S ⟨some d, .binOp .eql t x (.const (.pointer none)) t', ty, pos, after, none⟩ (.bool v.isNone) := fun w _ => by simp [execOp, ea, ev_const, eqGuard, binOp, run_eql_ptr ht hq]
theorem PV.nePtr {t t' e : TypeId} {x : Operand} {v : Option Addr} {r : TR}  (ea : ev ρ x = .pointer v) (ht : TabOk P t r) (hq : r.und = .pointer e) : PV P ρ S ⟨some d, .binOp .neq t x (.const (.pointer none)) t', ty, pos, after, none⟩ (.bool (!v.isNone)) := fun w _ => by simp [execOp, ea, ev_const, eqGuard, binOp, run_eql_ptr ht hq]
theorem PV.eqSlice {t t' e : TypeId} {x : Operand} {v : Option Addr} {l c : Nat} {r : TR}  (ea : ev ρ x = .slice v l c) (ht : TabOk P t r) (hq : r.und = .slice e) : PV P ρ S ⟨some d, .binOp .eql t x (.const (.slice none 0 0)) t', ty, pos, after, none⟩ (.bool v.isNone) := fun w _ => by simp [execOp, ea, ev_const, eqGuard, binOp, run_eql_slice ht hq]
theorem PV.neSlice {t t' e : TypeId} {x : Operand} {v : Option Addr} {l c : Nat} {r : TR}  (ea : ev ρ x = .slice v l c) (ht : TabOk P t r) (hq : r.und = .slice e) : PV P ρ S ⟨some d, .binOp .neq t x (.const (.slice none 0 0)) t', ty, pos, after, none⟩ (.bool (!v.isNone)) := fun w _ => by simp [execOp, ea, ev_const, eqGuard, binOp, run_eql_slice ht hq]
theorem PV.eqMap {t t' e e' : TypeId} {x : Operand} {v : Option Nat} {r : TR}  (ea : ev ρ x = .map v) (ht : TabOk P t r) (hq : r.und = .map e e') : PV P ρ S ⟨some d, .binOp .eql t x (.const (.map none)) t', ty, pos, after, none⟩ (.bool v.isNone) := fun w _ => by simp [execOp, ea, ev_const, eqGuard, binOp, run_eql_map ht hq]
theorem PV.neMap {t t' e e' : TypeId} {x : Operand} {v : Option Nat} {r : TR}  (ea : ev ρ x = .map v) (ht : TabOk P t r) (hq : r.und = .map e e') : PV P ρ S ⟨some d, .binOp .neq t x (.const (.map none)) t', ty, pos, after, none⟩ (.bool (!v.isNone)) := fun w _ => by simp [execOp, ea, ev_const, eqGuard, binOp, run_eql_map ht hq]
/-! ### strings -/
theorem PV.eqStr {t t' : TypeId} {x y : Operand} {a b : ByteArray}  (ea : ev ρ x = .string a) (eb : ev ρ y = .string b) : PV P ρ S ⟨some d, .binOp .eql t x y t', ty, pos, after, none⟩ (.bool (a.toList == b.toList)) := fun w _ => by simp [execOp, ea, eb, eqGuard, binOp, Op.stringOp]
theorem PV.neStr {t t' : TypeId} {x y : Operand} {a b : ByteArray}  (ea : ev ρ x = .string a) (eb : ev ρ y = .string b) : PV P ρ S ⟨some d, .binOp .neq t x y t', ty, pos, after, none⟩ (.bool (!(a.toList == b.toList))) := fun w _ => by simp [execOp, ea, eb, eqGuard, binOp, Op.stringOp]
theorem PV.catStr {t t' : TypeId} {x y : Operand} {a b : ByteArray}  (ea : ev ρ x = .string a) (eb : ev ρ y = .string b) (hs : a.size + b.size ≤ 9223372036854775807) : PV P ρ S ⟨some d, .binOp .add t x y t', ty, pos, after, none⟩ (.string (a ++ b)) := fun w _ => by
    have hm : IntKind.i64.max = 9223372036854775807 := by decide
    have : ¬ (((a.size + b.size : Nat) : Int) > IntKind.i64.max) := by rw [hm]; omega
    simp only [execOp, ea, eb, eqGuard, binOp, Op.stringOp, if_neg this]
    rfl
theorem PV.lenStr {t : TypeId} {x : Operand} {a : ByteArray} {r : TR}  (ea : ev ρ x = .string a) (ht : TabOk P t r) (hq : r.und = .string) : PV P ρ S ⟨some d, .call ⟨.builtin .len, #[x], #[t]⟩, ty, pos, after, none⟩ (.int .i64 a.size) := fun w _ => by simp [execOp, resolve, invoke, builtin, Builtin.len_, ea, ht.run_und, hq, goInt]
theorem PV.indexStr {t : TypeId} {x y : Operand} {a : ByteArray} {i : Nat} {q : IntKind} {r : TR}  (ea : ev ρ x = .string a) (eb : ev ρ y = .int q i) (ht : TabOk P t r) (hq : r.und = .string) (hi : i < a.size) : PV P ρ S ⟨some d, .index t x y, ty, pos, after, none⟩ (.int .u8 (a[i]'hi).toNat) := fun w _ => by simp [execOp, Instr.index, asIntOf, ea, eb, ht.run_und, hq, hi]
/-! ### lengths -/
theorem PV.lenSlice {t e : TypeId} {x : Operand} {v : Option Addr} {n c : Nat} {r : TR}  (ea : ev ρ x = .slice v n c) (ht : TabOk P t r) (hq : r.und = .slice e) : PV P ρ S ⟨some d, .call ⟨.builtin .len, #[x], #[t]⟩, ty, pos, after, none⟩ (.int .i64 n) := fun w _ => by simp [execOp, resolve, invoke, builtin, Builtin.len_, ea, ht.run_und, hq, goInt]
theorem PV.lenArray {t e : TypeId} {x : Operand} {n : Nat} {r : TR}  (ht : TabOk P t r) (hq : r.und = .array n e) : PV P ρ S ⟨some d, .call ⟨.builtin .len, #[x], #[t]⟩, ty, pos, after, none⟩ (.int .i64 n) := fun w _ => by simp [execOp, resolve, invoke, builtin, Builtin.len_, ht.run_und, hq, goInt]
theorem PV.capSlice {t e : TypeId} {x : Operand} {v : Option Addr} {n c : Nat} {r : TR}  (ea : ev ρ x = .slice v n c) (ht : TabOk P t r) (hq : r.und = .slice e) : PV P ρ S ⟨some d, .call ⟨.builtin .cap, #[x], #[t]⟩, ty, pos, after, none⟩ (.int .i64 c) := fun w _ => by simp [execOp, resolve, invoke, builtin, Builtin.cap_, ea, ht.run_und, hq, goInt]
theorem PV.min2 {ts : Array TypeId} {x y : Operand} {q : IntKind} {a b : Int}  (ea : ev ρ x = .int q a) (eb : ev ρ y = .int q b) : PV P ρ S ⟨some d, .call ⟨.builtin .min, #[x, y], ts⟩, ty, pos, after, none⟩ (.int q (if b < a then b else a)) := fun w _ => by simp [execOp, resolve, invoke, builtin, Builtin.min_, Builtin.min2, ea, eb]
theorem PV.min3 {ts : Array TypeId} {x y z : Operand} {q : IntKind} {a b c : Int}  (ea : ev ρ x = .int q a) (eb : ev ρ y = .int q b) (ec : ev ρ z = .int q c) : PV P ρ S ⟨some d, .call ⟨.builtin .min, #[x, y, z], ts⟩, ty, pos, after, none⟩ (.int q (if c < (if b < a then b else a) then c else (if b < a then b else a))) := fun w _ => by simp [execOp, resolve, invoke, builtin, Builtin.min_, Builtin.min2, ea, eb, ec]
theorem PV.max2 {ts : Array TypeId} {x y : Operand} {q : IntKind} {a b : Int}  (ea : ev ρ x = .int q a) (eb : ev ρ y = .int q b) : PV P ρ S ⟨some d, .call ⟨.builtin .max, #[x, y], ts⟩, ty, pos, after, none⟩ (.int q (if b > a then b else a)) := fun w _ => by simp [execOp, resolve, invoke, builtin, Builtin.max_, Builtin.max2, ea, eb]
/-! ### addresses -/
theorem run_fieldAt {t : TypeId} {r r' : TR} {fs : Array Field} {f : Nat} {fd : Field} (ht : TabOk P t r) (hq : r.und = .struct fs) (hf : fs[f]? = some fd) (ht' : TabOk P fd.type r') (hs : (r'.size == 0) = false) (b o : Nat) (w : World) :
    (Instr.fieldAt t (.pointer (some ⟨b, o, none⟩)) f).run P w = .ok (.pointer (some ⟨b, o + fd.offset, none⟩)) w := by
  have hs' : ¬ r'.size = 0 := by simpa using hs
  simp [Instr.fieldAt, ht.run_und, hq, hf, Instr.sureAddr, fieldPlace, ht'.run_size, hs', add_at]
theorem PV.fieldAddr {t : TypeId} {x : Operand} {f b o off o' : Nat} {r r' : TR} {fs : Array Field} {fd : Field}  (ea : ev ρ x = .pointer (some ⟨b, o, none⟩)) (ht : TabOk P t r) (hq : r.und = .struct fs) (hf : fs.toList[f]? = some fd)
    (ht' : TabOk P fd.type r') (hs : (r'.size == 0) = false) (ho : fd.offset = off) (ho' : o + off = o') : PV P ρ S ⟨some d, .fieldAddr t x f, ty, pos, after, none⟩ (.pointer (some ⟨b, o', none⟩)) := fun w _ => by subst ho'; subst ho; simp [execOp, ea, run_fieldAt ht hq (by simpa using hf) ht' hs]
theorem PV.indexAddr {t e : TypeId} {x y : Operand} {b o n c : Nat} {i : Int} {q : IntKind} {r r' : TR}  (ea : ev ρ x = .slice (some ⟨b, o, none⟩) n c) (eb : ev ρ y = .int q i) (ht : TabOk P t r) (hq : r.und = .slice e) (ht' : TabOk P e r')
    (h0 : 0 ≤ i) (h1 : i < n) {o' : Nat} (ho' : o + i.toNat * r'.size = o') : PV P ρ S ⟨some d, .indexAddr t x y, ty, pos, after, none⟩ (.pointer (some ⟨b, o', none⟩)) := fun w _ => by subst ho'; simp [execOp, Instr.indexAt, asIntOf, ea, eb, ht.run_und, hq, ht'.run_size, h0, h1, add_at]
theorem PV.indexAddrArr {t e : TypeId} {x y : Operand} {b o n : Nat} {i : Int} {q : IntKind} {r r' : TR}  (ea : ev ρ x = .pointer (some ⟨b, o, none⟩)) (eb : ev ρ y = .int q i) (ht : TabOk P t r) (hq : r.und = .array n e) (ht' : TabOk P e r')
    (h0 : 0 ≤ i) (h1 : i < n) {o' : Nat} (ho' : o + i.toNat * r'.size = o') : PV P ρ S ⟨some d, .indexAddr t x y, ty, pos, after, none⟩ (.pointer (some ⟨b, o', none⟩)) := fun w _ => by subst ho'; simp [execOp, Instr.indexAt, Instr.sureAddr, asIntOf, ea, eb, ht.run_und, hq, ht'.run_size, h0, h1, add_at]
/-! ### reads -/
theorem PV.load {E : World} {Γ : List HP} {t : TypeId} {x : Operand} {b o : Nat} {v : Value} {r : TR} (ea : ev ρ x = .pointer (some ⟨b, o, none⟩)) (ht : TabOk P t r) (hq : isAggD r.und = false) (hv : has Γ (fun m => cellAt m b o v)) : PV P ρ (Sat E Γ) ⟨some d, .load t x, ty, pos, after, none⟩ v := fun w hs => by
  have := hs.cell hv
  simp [execOp, ea, Instr.loadAt, Instr.sureAddr, loadVar, ht.run_agg, hq, this]
theorem PV.loadAgg {E : World} {Γ : List HP} {t : TypeId} {x : Operand} {b o : Nat} {vs : List Value} {r : TR} (ea : ev ρ x = .pointer (some ⟨b, o, none⟩)) (ht : TabOk P t r) (hq : isAggD r.und = true) (hl : vs.length = r.size) (hv : has Γ (fun m => cellsAt m b o vs)) : PV P ρ (Sat E Γ) ⟨some d, .load t x, ty, pos, after, none⟩ (.agg vs.toArray) := fun w hs => by
  have hc : ∀ j v, vs[j]? = some v → w.cell? ((⟨b, o, none⟩ : Addr).add j) = some v := fun j v hj => by
    rw [add_at]
    exact hs.cell (has_imp hv fun m hm => hm j v hj)
  have := run_loadCells_list (P := P) w ⟨b, o, none⟩ vs hc
  rw [hl] at this
  simp [execOp, ea, Instr.loadAt, Instr.sureAddr, loadVar, ht.run_agg, hq, ht.run_size, this]
theorem PV.loadRow {E : World} {Γ : List HP} {t e : TypeId} {x : Operand} {b o : Nat} {l vs : List Value} {r : TR} (i : Nat) (hi : Γ[i]? = some (row b l e)) (ea : ev ρ x = .pointer (some ⟨b, o, none⟩)) (ht : TabOk P t r) (hq : isAggD r.und = true) (hv : (l.drop o).take r.size = vs) (hn : (vs.length == r.size) = true) : PV P ρ (Sat E Γ) ⟨some d, .load t x, ty, pos, after, none⟩ (.agg vs.toArray) :=
  have hn' : vs.length = r.size := by simpa using hn
  .loadAgg ea ht hq hn' (has_rows i hi (by rw [hn', hv]))
end
section
variable {cx : Cx} {ops : Array Oper} {k : Act → World → Prop} {rest : List Oper} {ρ : Env} {ds : List Deferred} {Γ : List HP} {d : Nat} {ty : TypeId} {pos : String} {after : Array Edge}
theorem TL.pv {op : Op} {v : Value} (hd : Nat.blt d cx.n = true) (hv : PV cx.P ρ (Sat cx.E Γ) ⟨some d, op, ty, pos, after, none⟩ v) (h : TL cx ops k rest ((d, v) :: ρ) ds Γ) : TL cx ops k (⟨some d, op, ty, pos, after, none⟩ :: rest) ρ ds Γ := .read hd hv h
/-! ### memory of one's own -/
theorem TL.box {t : TypeId} {x : Operand} {v : Value} {l : List Value} (hd : Nat.blt d cx.n = true) (ea : ev ρ x = v) (hl : v.cells.toList = l)
    (h : ∀ b, TL cx ops k rest ((d, .pointer (some ⟨b, 0, none⟩)) :: ρ) ds (row b l t :: Γ)) : TL cx ops k (⟨some d, .box t x, ty, pos, after, none⟩ :: rest) ρ ds Γ :=
  .act (X := Nat) (φ := fun _ => True) (v := fun b => .pointer (some ⟨b, 0, none⟩)) (Δ := fun b => row b l t :: Γ) hd (fun w hs => ⟨w.heap.size, _, trivial, hs.alloc _, by
    simp [execOp, ea, Instr.box, newVar, newRow, newObj, Sem.run, ← hl]⟩) (fun b _ => h b)
theorem TL.alloc {t : TypeId} {r : TR} {l : List Value} (hd : Nat.blt d cx.n = true) (ht : TabOk cx.P t r) (hl : r.zero.cells.toList = l)
    (h : ∀ b, TL cx ops k rest ((d, .pointer (some ⟨b, 0, none⟩)) :: ρ) ds (row b l t :: Γ)) : TL cx ops k (⟨some d, .alloc t, ty, pos, after, none⟩ :: rest) ρ ds Γ :=
  .act (X := Nat) (φ := fun _ => True) (v := fun b => .pointer (some ⟨b, 0, none⟩)) (Δ := fun b => row b l t :: Γ) hd (fun w hs => ⟨w.heap.size, _, trivial, hs.alloc _, by
    simp [execOp, Instr.alloc, ht.run_zero, newVar, newRow, newObj, Sem.run, ← hl]⟩) (fun b _ => h b)
theorem setRow_other (w : World) (g : Nat) (cur : Array Value) (k : Nat) (hk : k ≠ g) : (w.setRow g cur).heap[k]? = w.heap[k]? := by
  simp [World.setRow, Array.getElem?_modify, Ne.symm hk]
theorem TL.store {t e : TypeId} {x y : Operand} {b o : Nat} {v : Value} {l : List Value} {r : TR} (i : Nat) (hi : Γ[i]? = some (row b l e)) (ea : ev ρ x = .pointer (some ⟨b, o, none⟩)) (eb : ev ρ y = v) (h1 : v.oneCell' = true) (ht : TabOk cx.P t r) (hr1 : (r.size == 1) = true) (ho : o < l.length)
    (h : TL cx ops k rest ρ ds (Γ.set i (row b (l.set o v) e))) : TL cx ops k (⟨none, .store t x y, ty, pos, after, none⟩ :: rest) ρ ds Γ :=
  .act0 (fun w hs => by
    have hb := hs.block hi
    have hc : v.cells = #[v] := by cases v <;> simp [Value.cells, Value.oneCell'] at h1 ⊢
    have hst := run_storeCells_at cx.P b o e [v] 0 l.toArray w hb (by simp; omega) (by simpa using h1)
    have hr1' : r.size = 1 := by simpa using hr1
    refine ⟨_, ?_, by simp [execOp, ea, eb, Instr.storeAt, Instr.sureAddr, storeVar, hc, ht.run_size, hr1', hst]; rfl⟩
    refine hs.put hi rfl rfl rfl ?_ fun k hk q hq => (setRow_other w b _ k hk).trans hq
    rw [setRow_heap w b _ _ e _ hb]
    simp [List.set_eq_take_append_cons_drop, ho]) h
theorem TL.storeAgg {t e : TypeId} {x y : Operand} {b o : Nat} {vs : List Value} {l : List Value} {r : TR} (i : Nat) (hi : Γ[i]? = some (row b l e)) (ea : ev ρ x = .pointer (some ⟨b, o, none⟩)) (eb : ev ρ y = .agg vs.toArray) (h1 : ∀ v ∈ vs, v.oneCell' = true) (ht : TabOk cx.P t r) (hl : vs.length = r.size) (ho : o + vs.length ≤ l.length)
    (h : TL cx ops k rest ρ ds (Γ.set i (row b (l.take o ++ vs ++ l.drop (o + vs.length)) e))) : TL cx ops k (⟨none, .store t x y, ty, pos, after, none⟩ :: rest) ρ ds Γ :=
  .act0 (fun w hs => by
    have hb := hs.block hi
    have hst := run_storeCells_at cx.P b o e vs 0 l.toArray w hb (by simpa using ho) h1
    refine ⟨_, ?_, by simp [execOp, ea, eb, Instr.storeAt, Instr.sureAddr, storeVar, Value.cells, ht.run_size, hl, hst]; rfl⟩
    refine hs.put hi rfl rfl rfl ?_ fun k hk q hq => (setRow_other w b _ k hk).trans hq
    rw [setRow_heap w b _ _ e _ hb]
    simp [hl]) h
theorem TL.storeR {t e : TypeId} {x y : Operand} {b o : Nat} {v : Value} {l l' : List Value} {r : TR} {Δ : List HP} (i : Nat) (hi : Γ[i]? = some (row b l e)) (ea : ev ρ x = .pointer (some ⟨b, o, none⟩)) (eb : ev ρ y = v) (h1 : v.oneCell' = true) (ht : TabOk cx.P t r) (hr1 : (r.size == 1) = true) (ho : Nat.blt o l.length = true)
    (hl : l.set o v = l') (hΔ : Γ.set i (row b l' e) = Δ) (h : TL cx ops k rest ρ ds Δ) : TL cx ops k (⟨none, .store t x y, ty, pos, after, none⟩ :: rest) ρ ds Γ := by
  subst hl; subst hΔ
  exact .store i hi ea eb h1 ht hr1 (by simpa using ho) h
def allOne (vs : List Value) : Bool := vs.all (·.oneCell')
theorem TL.storeAggR {t e : TypeId} {x y : Operand} {b o : Nat} {vs : List Value} {l l' : List Value} {r : TR} {Δ : List HP} (i : Nat) (hi : Γ[i]? = some (row b l e)) (ea : ev ρ x = .pointer (some ⟨b, o, none⟩)) (eb : ev ρ y = .agg vs.toArray) (h1 : allOne vs = true) (ht : TabOk cx.P t r) (hn : (vs.length == r.size) = true) (ho : Nat.ble (o + vs.length) l.length = true)
    (hl : l.take o ++ vs ++ l.drop (o + vs.length) = l') (hΔ : Γ.set i (row b l' e) = Δ) (h : TL cx ops k rest ρ ds Δ) : TL cx ops k (⟨none, .store t x y, ty, pos, after, none⟩ :: rest) ρ ds Γ := by
  subst hl; subst hΔ
  exact .storeAgg i hi ea eb (by simpa [allOne] using h1) ht (by simpa using hn) (by simpa using ho) h
theorem Sat.drew {E : World} {Γ : List HP} {w : World} (h : Sat E Γ w) : Sat E Γ { w with drawn := w.drawn + 1 } := h.same rfl rfl rfl rfl
/-! ### a region that draws its order and only reads -/
/-- THE JUDGEMENT: in the order of the text; the class of worlds is 'bears Γ'. -/
def TQ (cx : Cx) (ops : Array Oper) (k : Act → World → Prop) (rest : List Oper) (ρ : Env) (ds : List Deferred) (Γ : List HP) : Prop :=
  ∀ a, Rp cx.n ρ ds a → wpQuiet cx.P ops (Sat cx.E Γ) (fun a' => ∀ w', Sat cx.E Γ w' → Qk cx k .normal a' w') rest a
theorem TK.quiet {k : List Item} {id : Nat} {l : List Oper} (hm : cx.P.follows .mixedOrders = true) (hrd : cx.rd = none) (hB : Region.lexB .any l.toArray = true) (h : TQ cx l.toArray (WP cx k) l ρ ds Γ) : TK cx (.code (.region id l.toArray true) :: k) ρ ds Γ :=
  fun a w hr hs => WP.code hrd (wp_region_quiet (C := Sat cx.E Γ) hm hB hs.drew (by simpa using h a hr))
theorem TQ.nil {k : List Item} (h : TK cx k ρ ds Γ) : TQ cx ops (WP cx k) [] ρ ds Γ := fun a hr w' hs => h a w' hr hs
theorem TQ.know {t : Nat} {v : Value} (e : lk ρ t = v) (h : TQ cx ops k rest ((t, v) :: ρ) ds Γ) : TQ cx ops k rest ρ ds Γ := fun a hr => h a (hr.know e)
theorem TQ.cases (t : Nat) {c : Bool} (e : lk ρ t = .bool c) (h1 : c = true → TQ cx ops k rest ((t, .bool true) :: ρ) ds Γ) (h2 : c = false → TQ cx ops k rest ((t, .bool false) :: ρ) ds Γ) : TQ cx ops k rest ρ ds Γ := by
  cases c with
  | true => exact .know e (h1 rfl)
  | false => exact .know e (h2 rfl)
theorem TQ.guard_by {o : Oper} {g : Nat} {want : Bool} {t : Nat} {c : Bool} (_ : o.guard = some (g, want)) (_ : ((ops[g]?).bind (·.dst)) = some t) (e : lk ρ t = .bool c)
    (h1 : c = true → TQ cx ops k (o :: rest) ((t, .bool true) :: ρ) ds Γ) (h2 : c = false → TQ cx ops k (o :: rest) ((t, .bool false) :: ρ) ds Γ) : TQ cx ops k (o :: rest) ρ ds Γ := .cases t e h1 h2
theorem TQ.guardT {o : Oper} {g : Nat} {want : Bool} {t : Nat} {c : Bool} (_ : o.guard = some (g, want)) (_ : ((ops[g]?).bind (·.dst)) = some t) (e : lk ρ t = .bool c) (hc : c = true) (h1 : TQ cx ops k (o :: rest) ((t, .bool true) :: ρ) ds Γ) : TQ cx ops k (o :: rest) ρ ds Γ := .know (hc ▸ e) h1
theorem TQ.guardF {o : Oper} {g : Nat} {want : Bool} {t : Nat} {c : Bool} (_ : o.guard = some (g, want)) (_ : ((ops[g]?).bind (·.dst)) = some t) (e : lk ρ t = .bool c) (hc : c = false) (h1 : TQ cx ops k (o :: rest) ((t, .bool false) :: ρ) ds Γ) : TQ cx ops k (o :: rest) ρ ds Γ := .know (hc ▸ e) h1
theorem TQ.mem (h : ∀ m, all Γ m → TQ cx ops k rest ρ ds Γ) (hne : ∃ m, all Γ m) : TQ cx ops k rest ρ ds Γ := let ⟨m, hm⟩ := hne; h m hm
theorem TQ.pv {op : Op} {v : Value} (hd : Nat.blt d cx.n = true) (hv : PV cx.P ρ (Sat cx.E Γ) ⟨some d, op, ty, pos, after, none⟩ v) (h : TQ cx ops k rest ((d, v) :: ρ) ds Γ) : TQ cx ops k (⟨some d, op, ty, pos, after, none⟩ :: rest) ρ ds Γ := by
  intro a hr
  refine wpQuiet_step fun K hK => ?_
  simp only [Region.wanted, if_true]
  refine ⟨v, fun w hw => ?_, hK _ (h _ (hr.put d v hd))⟩
  unfold Oper.quietAt
  rw [hr.ev, hv w hw]
  exact ⟨rfl, rfl⟩
theorem TQ.guard_yes {o : Oper} {g : Nat} {want : Bool} {t : Nat} (hg : o.guard = some (g, want)) (ht : ((ops[g]?).bind (·.dst)) = some t) (hn : Nat.blt t cx.n = true) (e : lk ρ t = .bool want)
    (h : TQ cx ops k ({ o with guard := none } :: rest) ρ ds Γ) : TQ cx ops k (o :: rest) ρ ds Γ := by
  intro a hr
  have h1 := h a hr
  have hw : Region.wanted o (yielded ops a.tmps) = true := by
    have hlt : t < a.tmps.size := by rw [hr.size]; simpa using hn
    have e1 : a.tmps[t]? = some (.bool want) := by
      have := hr.get t
      rw [e] at this
      simp [hlt] at this ⊢
      exact this
    simp [Region.wanted, hg, yielded, ht, e1]
  unfold wpQuiet at h1 ⊢
  rw [if_pos hw]
  rw [if_pos (by simp [Region.wanted])] at h1
  obtain ⟨_, _, _, _, _, _⟩ := o
  exact h1
theorem TQ.guard_no {o : Oper} {g : Nat} {want : Bool} {t d : Nat} {x : Bool} (hg : o.guard = some (g, want)) (hd : o.dst = some d) (hdn : Nat.blt d cx.n = true) (ht : ((ops[g]?).bind (·.dst)) = some t) (e : lk ρ t = .bool x) (hx : (x == want) = false)
    (h : TQ cx ops k rest ((d, undef) :: ρ) ds Γ) : TQ cx ops k (o :: rest) ρ ds Γ := by
  intro a hr
  have hw : Region.wanted o (yielded ops a.tmps) = false := by
    have : ∀ y, a.tmps[t]? = some y → y = .bool x := fun y hy => by
      have := hr.get t
      rw [e, Array.getD_eq_getD_getElem?, hy] at this
      exact this
    simp only [Region.wanted, hg, yielded, ht, Option.bind_some]
    cases hy : a.tmps[t]? with
    | none => simp
    | some y => rw [this y hy]; simpa using hx
  unfold wpQuiet
  rw [if_neg (by rw [hw]; simp), hd]
  exact h _ (hr.put d undef hdn)
theorem TQ.guard_un {o : Oper} {g : Nat} {want : Bool} {t d : Nat} (hg : o.guard = some (g, want)) (hd : o.dst = some d) (hdn : Nat.blt d cx.n = true) (ht : ((ops[g]?).bind (·.dst)) = some t) (e : lk ρ t = undef)
    (h : TQ cx ops k rest ((d, undef) :: ρ) ds Γ) : TQ cx ops k (o :: rest) ρ ds Γ := by
  intro a hr
  have hw : Region.wanted o (yielded ops a.tmps) = false := by
    have : ∀ y, a.tmps[t]? = some y → y = undef := fun y hy => by
      have := hr.get t
      rw [e, Array.getD_eq_getD_getElem?, hy] at this
      exact this
    simp only [Region.wanted, hg, yielded, ht, Option.bind_some]
    cases hy : a.tmps[t]? with
    | none => simp
    | some y => rw [this y hy]; simp [undef]
  unfold wpQuiet
  rw [if_neg (by rw [hw]; simp), hd]
  exact h _ (hr.put d undef hdn)
end
end Go.Proofs.Ythbcfamfaicneaa.E
