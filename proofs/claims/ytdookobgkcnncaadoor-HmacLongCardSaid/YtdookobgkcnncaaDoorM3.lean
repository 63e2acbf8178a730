/- errors.As at a wrong of package hmac, and at nil: walked. -/
import Derived.Test.YtdookobgkcnncaaDoorM2
namespace Go.Proofs.YtdookobgkcnncaaDoor.E
open Go Go.RowKit Go.Proofs Go.Extern Go.Extern.Stop Go.Stop
attribute [local irreducible] TK TL TQ TA Fn PV
/-- A Value of reflectlite's: of this type, at this place, with these flags. -/
abbrev vv (t b f : Nat) : Value := .agg #[.pointer (some ⟨3, t, none⟩), .pointer (some ⟨b, 0, none⟩), .int .u64 (f : Int)]
theorem x_valueOf69 (a : Addr) (w : World) : (callFunc 45 #[.iface 69 (.pointer (some a))]).run Tryd.prog w = .ok (.value (vv 69 w.heap.size 150)) (w.alloc (.cells #[.pointer (some a)] 69)) := by kernel_rfl
theorem x_valueOf67 (a : Addr) (w : World) : (callFunc 45 #[.iface 67 (.pointer (some a))]).run Tryd.prog w = .ok (.value (vv 67 w.heap.size 150)) (w.alloc (.cells #[.pointer (some a)] 67)) := by kernel_rfl
theorem x_type69 (b : Nat) (w : World) : (callFunc 46 #[vv 69 b 150]).run Tryd.prog w = .ok (.value (rty 69)) w := by kernel_rfl
theorem m_kind (t : Nat) (w : World) : (Go.method (Tryd.prog.types.size + Made.depth) 94 (hnd t) "Kind").run Tryd.prog w = .ok (65, .pointer (some ⟨3, t, none⟩)) w := by kernel_rfl
theorem x_kind69 (w : World) : (callFunc 65 #[.pointer (some ⟨3, 69, none⟩)]).run Tryd.prog w = .ok (.value (.int .u8 22)) w := by kernel_rfl
theorem x_kind67 (w : World) : (callFunc 65 #[.pointer (some ⟨3, 67, none⟩)]).run Tryd.prog w = .ok (.value (.int .u8 22)) w := by kernel_rfl
theorem m_elem (u : Value) (w : World) : (Go.method (Tryd.prog.types.size + Made.depth) 94 u "Elem").run Tryd.prog w = .ok (77, u) w := by kernel_rfl
theorem x_elem69 (w : World) : (callFunc 77 #[hnd 69]).run Tryd.prog w = .ok (.value (rty 67)) w := by kernel_rfl
theorem m_implements (u : Value) (w : World) : (Go.method (Tryd.prog.types.size + Made.depth) 94 u "Implements").run Tryd.prog w = .ok (78, u) w := by kernel_rfl
theorem x_implements67 (w : World) : (callFunc 78 #[hnd 67, rty 48]).run Tryd.prog w = .ok (.value (.bool true)) w := by kernel_rfl
theorem m_assignable (u : Value) (w : World) : (Go.method (Tryd.prog.types.size + Made.depth) 94 u "AssignableTo").run Tryd.prog w = .ok (75, u) w := by kernel_rfl
theorem x_assignable67 (w : World) : (callFunc 75 #[hnd 67, rty 67]).run Tryd.prog w = .ok (.value (.bool true)) w := by kernel_rfl
/-! ### those that read or write memory -/
theorem parts69 (b : Nat) (w : World) : (ReflectliteValue.parts (vv 69 b 150)).run Tryd.prog w = .ok (some (69, ⟨b, 0, none⟩, 150)) w := by kernel_rfl
theorem parts67 (b : Nat) (w : World) : (ReflectliteValue.parts (vv 67 b 150)).run Tryd.prog w = .ok (some (67, ⟨b, 0, none⟩, 150)) w := by kernel_rfl
theorem parts67a (b : Nat) (w : World) : (ReflectliteValue.parts (vv 67 b 406)).run Tryd.prog w = .ok (some (67, ⟨b, 0, none⟩, 406)) w := by kernel_rfl
theorem rlm (z : Sem Value) (f : TypeId → Addr → Nat → Nat → Sem Value) (v : Value) :
    ReflectliteValue.method z f #[v] = (do match ← ReflectliteValue.parts v with | none => z | some (t, a, fl) => f t a fl (fl % 32)) := rfl
theorem load69 {b : Nat} {v : Value} {w : World} (h : w.cell? ⟨b, 0, none⟩ = some v) : (loadVar 69 ⟨b, 0, none⟩).run Tryd.prog w = .ok v w := by
  simp [loadVar, isAgg, underlying, Tryd.underlying69, h, Result.andThen]
theorem load67 {b : Nat} {v : Value} {w : World} (h : w.cell? ⟨b, 0, none⟩ = some v) : (loadVar 67 ⟨b, 0, none⟩).run Tryd.prog w = .ok v w := by
  simp [loadVar, isAgg, underlying, Tryd.underlying67, h, Result.andThen]
theorem x_isNil69 {b : Nat} {p : Addr} {w : World} (h : w.cell? ⟨b, 0, none⟩ = some (.pointer (some p))) : (callFunc 47 #[vv 69 b 150]).run Tryd.prog w = .ok (.value (.bool false)) w := by
  rw [run_callFunc_extern Tryd.func47 (by kernel_rfl) (by kernel_rfl) (by kernel_rfl) (show Extern.find _ = some (ReflectliteValue.method (ReflectliteValue.valueError "reflectlite.Value.IsNil" 0) ReflectliteValue.isNil) by kernel_rfl), rlm]
  simp only [Sem.run_bind, parts69, Result.andThen]
  simp [ReflectliteValue.isNil, load69 h, Result.andThen]
theorem elemOf69 (w : World) : (Rtype.elem? 69).run Tryd.prog w = .ok (some 67) w := by kernel_rfl
theorem mk67 (p : Nat) (w : World) : (ReflectliteValue.mk 67 ⟨p, 0, none⟩ ReflectliteValue.flagAddr).run Tryd.prog w = .ok (vv 67 p 406) w := by kernel_rfl
theorem x_elemV69 {b p : Nat} {w : World} (h : w.cell? ⟨b, 0, none⟩ = some (.pointer (some ⟨p, 0, none⟩))) : (callFunc 49 #[vv 69 b 150]).run Tryd.prog w = .ok (.value (vv 67 p 406)) w := by
  rw [run_callFunc_extern Tryd.func49 (by kernel_rfl) (by kernel_rfl) (by kernel_rfl) (show Extern.find _ = some (ReflectliteValue.method (ReflectliteValue.valueError "reflectlite.Value.Elem" 0) ReflectliteValue.elem) by kernel_rfl), rlm]
  simp only [Sem.run_bind, parts69, Result.andThen]
  simp [ReflectliteValue.elem, load69 h, Result.andThen, elemOf69, mk67]
theorem rls (v x : Value) : ReflectliteValue.set #[v, x] = (do
    let (some (dst, a, fl), some (src, b, _)) := (← ReflectliteValue.parts v, ← ReflectliteValue.parts x)
      | unsupported (.noEntry "extern/(internal/reflectlite.Value).Set.zeroValue")
    if fl / ReflectliteValue.flagAddr % 2 == 0 then unsupported (.noEntry "extern/(internal/reflectlite.Value).Set.unaddressable")
    let val ← loadVar src b
    if ← Rtype.directlyAssignable dst src then storeVar dst a val
    else if ← Rtype.implements dst src then
      if (← Rtype.kind src) == 20 then
        match val with
        | .nilIface => unsupported (.noEntry "extern/reflectlite: a nil value of one interface type handed on as a value of another")
        | _ => storeVar dst a val
      else storeVar dst a (.iface src val)
    else panicString ("reflectlite.Set: value of type " ++ (← Rtype.spelt src) ++ " is not assignable to type " ++ (← Rtype.spelt dst))
    pure (.tuple #[])) := rfl
theorem direct67 (w : World) : (Rtype.directlyAssignable 67 67).run Tryd.prog w = .ok true w := by kernel_rfl
theorem x_set67 {p b : Nat} {e : Addr} {old : Value} {w : World} (hb : w.cell? ⟨b, 0, none⟩ = some (.pointer (some e))) (hp : w.heap[p]? = some (.cells #[old] 67 (0, 0))) :
    (callFunc 50 #[vv 67 p 406, vv 67 b 150]).run Tryd.prog w = .ok (.value (.tuple #[])) (w.setRow p #[.pointer (some e)]) := by
  have hst := run_storeCells_at Tryd.prog p 0 67 [.pointer (some e)] 0 #[old] w hp (by simp) (by simp [Value.oneCell'])
  have hsto : (storeVar 67 ⟨p, 0, none⟩ (.pointer (some e))).run Tryd.prog w = .ok () (w.setRow p #[.pointer (some e)]) := by
    have := (tb rfl : TabOk Tryd.prog 67 _).run_size w
    simp at hst
    simp [storeVar, Value.cells, this, hst]
  rw [run_callFunc_extern Tryd.func50 (by kernel_rfl) (by kernel_rfl) (by kernel_rfl) (show Extern.find _ = some ReflectliteValue.set by kernel_rfl), rls]
  simp only [Sem.run_bind, parts67, parts67a, Result.andThen]
  simp [ReflectliteValue.flagAddr, load67 hb, Result.andThen, direct67, hsto]
end Go.Proofs.YtdookobgkcnncaaDoor.E
