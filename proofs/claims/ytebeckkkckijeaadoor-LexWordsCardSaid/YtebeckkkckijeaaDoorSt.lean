import Derived.Test.YtebeckkkckijeaaDoorSd
import Derived.Test.YtebeckkkckijeaaDoorProg
import Derived.KernelRfl
/- THE TABLES: written by a program of mine (tabs.py), held against the loaded program by the kernel. -/
namespace Go.Proofs.YtebeckkkckijeaaDoor.E
open Go Go.Proofs
set_option maxRecDepth 100000
noncomputable def tab : List TR := [
  ⟨.tuple #[], 1, 0, .tuple #[]⟩,
  ⟨.func #[] #[] false, 1, 8, .nilFunc⟩,
  ⟨.int .i64, 1, 8, .int .i64 0⟩,
  ⟨.int .i64, 1, 8, .int .i64 0⟩,
  ⟨.bool, 1, 1, .bool false⟩,
  ⟨.int .u8, 1, 1, .int .u8 0⟩,
  ⟨.int .u8, 1, 1, .int .u8 0⟩,
  ⟨.struct #[⟨"x", 2, 0, false, "", "runtime", 0⟩, ⟨"y", 3, 1, false, "", "runtime", 8⟩, ⟨"signed", 4, 2, false, "", "runtime", 16⟩, ⟨"code", 6, 3, false, "", "runtime", 17⟩], 4, 24, .agg #[.int .i64 0, .int .i64 0, .bool false, .int .u8 0]⟩,
  ⟨.struct #[⟨"x", 2, 0, false, "", "runtime", 0⟩, ⟨"y", 3, 1, false, "", "runtime", 8⟩, ⟨"signed", 4, 2, false, "", "runtime", 16⟩, ⟨"code", 6, 3, false, "", "runtime", 17⟩], 4, 24, .agg #[.int .i64 0, .int .i64 0, .bool false, .int .u8 0]⟩,
  ⟨.string, 1, 16, .string ⟨#[]⟩⟩,
  ⟨.string, 1, 16, .string ⟨#[]⟩⟩,
  ⟨.string, 1, 16, .string ⟨#[]⟩⟩,
  ⟨.int .u64, 1, 8, .int .u64 0⟩,
  ⟨.struct #[⟨"msg", 9, 0, false, "", "runtime", 0⟩, ⟨"addr", 12, 1, false, "", "runtime", 16⟩], 2, 24, .agg #[.string ⟨#[]⟩, .int .u64 0]⟩,
  ⟨.struct #[⟨"msg", 9, 0, false, "", "runtime", 0⟩, ⟨"addr", 12, 1, false, "", "runtime", 16⟩], 2, 24, .agg #[.string ⟨#[]⟩, .int .u64 0]⟩,
  ⟨.pointer 75, 1, 8, .pointer none⟩,
  ⟨.pointer 78, 1, 8, .pointer none⟩,
  ⟨.pointer 86, 1, 8, .pointer none⟩,
  ⟨.struct #[⟨"typ", 17, 0, false, "", "internal/runtime/maps", 0⟩], 1, 8, .agg #[.pointer none]⟩,
  ⟨.struct #[⟨"typ", 17, 0, false, "", "internal/runtime/maps", 0⟩], 1, 8, .agg #[.pointer none]⟩,
  ⟨.interface #[], 1, 16, .nilIface⟩,
  ⟨.int .i32, 1, 4, .int .i32 0⟩,
  ⟨.func #[] #[4] false, 1, 8, .nilFunc⟩,
  ⟨.slice 36, 1, 24, .slice none 0 0⟩,
  ⟨.int .i64, 1, 8, .int .i64 0⟩,
  ⟨.tuple #[23, 3, 24], 1, 0, .tuple #[.slice none 0 0, .int .i64 0, .int .i64 0]⟩,
  ⟨.func #[9] #[23, 3, 24] false, 1, 8, .nilFunc⟩,
  ⟨.slice 49, 1, 24, .slice none 0 0⟩,
  ⟨.tuple #[27, 3, 24], 1, 0, .tuple #[.slice none 0 0, .int .i64 0, .int .i64 0]⟩,
  ⟨.func #[9] #[27, 3, 24] false, 1, 8, .nilFunc⟩,
  ⟨.func #[23, 27, 4] #[4] false, 1, 8, .nilFunc⟩,
  ⟨.func #[23] #[9] false, 1, 8, .nilFunc⟩,
  ⟨.func #[27] #[9] false, 1, 8, .nilFunc⟩,
  ⟨.func #[9] #[4] false, 1, 8, .nilFunc⟩,
  ⟨.slice 5, 1, 24, .slice none 0 0⟩,
  ⟨.struct #[⟨"Kind", 5, 0, false, "", "", 0⟩, ⟨"Text", 9, 1, false, "", "", 8⟩, ⟨"At", 3, 2, false, "", "", 24⟩], 3, 32, .agg #[.int .u8 0, .string ⟨#[]⟩, .int .i64 0]⟩,
  ⟨.struct #[⟨"Kind", 5, 0, false, "", "", 0⟩, ⟨"Text", 9, 1, false, "", "", 8⟩, ⟨"At", 3, 2, false, "", "", 24⟩], 3, 32, .agg #[.int .u8 0, .string ⟨#[]⟩, .int .i64 0]⟩,
  ⟨.slice 9, 1, 24, .slice none 0 0⟩,
  ⟨.func #[9, 9, 34] #[4] false, 1, 8, .nilFunc⟩,
  ⟨.int .i8, 1, 1, .int .i8 0⟩,
  ⟨.func #[39, 4] #[4] false, 1, 8, .nilFunc⟩,
  ⟨.func #[9, 9] #[4] false, 1, 8, .nilFunc⟩,
  ⟨.pointer 44, 1, 8, .pointer none⟩,
  ⟨.struct #[⟨"text", 9, 0, false, "", "bailey/lex", 0⟩, ⟨"at", 3, 1, false, "", "bailey/lex", 16⟩, ⟨"l", 23, 2, false, "", "bailey/lex", 24⟩], 3, 48, .agg #[.string ⟨#[]⟩, .int .i64 0, .slice none 0 0]⟩,
  ⟨.struct #[⟨"text", 9, 0, false, "", "bailey/lex", 0⟩, ⟨"at", 3, 1, false, "", "bailey/lex", 16⟩, ⟨"l", 23, 2, false, "", "bailey/lex", 24⟩], 3, 48, .agg #[.string ⟨#[]⟩, .int .i64 0, .slice none 0 0]⟩,
  ⟨.func #[9, 3] #[3] false, 1, 8, .nilFunc⟩,
  ⟨.tuple #[5, 3], 1, 0, .tuple #[.int .u8 0, .int .i64 0]⟩,
  ⟨.func #[9, 3] #[5, 3] false, 1, 8, .nilFunc⟩,
  ⟨.func #[9] #[5] false, 1, 8, .nilFunc⟩,
  ⟨.struct #[⟨"Kind", 5, 0, false, "", "", 0⟩, ⟨"Text", 9, 1, false, "", "", 8⟩, ⟨"At", 3, 2, false, "", "", 24⟩], 3, 32, .agg #[.int .u8 0, .string ⟨#[]⟩, .int .i64 0]⟩,
  ⟨.func #[37, 9] #[9] false, 1, 8, .nilFunc⟩,
  ⟨.func #[9, 5] #[3] false, 1, 8, .nilFunc⟩,
  ⟨.func #[5, 3] #[4] false, 1, 8, .nilFunc⟩,
  ⟨.map 5 5, 1, 8, .map none⟩,
  ⟨.pointer 56, 1, 8, .pointer none⟩,
  ⟨.struct #[⟨"addr", 54, 0, false, "", "strings", 0⟩, ⟨"buf", 34, 1, false, "", "strings", 8⟩], 2, 32, .agg #[.pointer none, .slice none 0 0]⟩,
  ⟨.struct #[⟨"addr", 54, 0, false, "", "strings", 0⟩, ⟨"buf", 34, 1, false, "", "strings", 8⟩], 2, 32, .agg #[.pointer none, .slice none 0 0]⟩,
  ⟨.func #[3] #[] false, 1, 8, .nilFunc⟩,
  ⟨.interface #[("Error", 62)], 1, 16, .nilIface⟩,
  ⟨.interface #[("Error", 62)], 1, 16, .nilIface⟩,
  ⟨.tuple #[3, 59], 1, 0, .tuple #[.int .i64 0, .nilIface]⟩,
  ⟨.func #[9] #[3, 59] false, 1, 8, .nilFunc⟩,
  ⟨.func #[] #[9] false, 1, 8, .nilFunc⟩,
  ⟨.func #[] #[3] false, 1, 8, .nilFunc⟩,
  ⟨.tuple #[5, 4], 1, 0, .tuple #[.int .u8 0, .bool false]⟩,
  ⟨.map 9 5, 1, 8, .map none⟩,
  ⟨.pointer 5, 1, 8, .pointer none⟩,
  ⟨.func #[9, 68] #[3] false, 1, 8, .nilFunc⟩,
  ⟨.func #[21] #[4] false, 1, 8, .nilFunc⟩,
  ⟨.unsafePointer, 1, 8, .pointer none⟩,
  ⟨.func #[69] #[69] false, 1, 8, .nilFunc⟩,
  ⟨.func #[3] #[34] false, 1, 8, .nilFunc⟩,
  ⟨.func #[9, 68, 4] #[3] false, 1, 8, .nilFunc⟩,
  ⟨.func #[5] #[3] false, 1, 8, .nilFunc⟩,
  ⟨.struct #[⟨"_interface", 17, 0, false, "", "runtime", 0⟩, ⟨"concrete", 17, 1, false, "", "runtime", 8⟩, ⟨"asserted", 17, 2, false, "", "runtime", 16⟩, ⟨"missingMethod", 9, 3, false, "", "runtime", 24⟩], 4, 40, .agg #[.pointer none, .pointer none, .pointer none, .string ⟨#[]⟩]⟩,
  ⟨.struct #[⟨"_interface", 17, 0, false, "", "runtime", 0⟩, ⟨"concrete", 17, 1, false, "", "runtime", 8⟩, ⟨"asserted", 17, 2, false, "", "runtime", 16⟩, ⟨"missingMethod", 9, 3, false, "", "runtime", 24⟩], 4, 40, .agg #[.pointer none, .pointer none, .pointer none, .string ⟨#[]⟩]⟩,
  ⟨.array 0 16, 0, 0, .agg #[]⟩,
  ⟨.struct #[⟨"_", 76, 0, false, "", "runtime", 0⟩], 0, 0, .agg #[]⟩,
  ⟨.struct #[⟨"_", 76, 0, false, "", "runtime", 0⟩], 0, 0, .agg #[]⟩,
  ⟨.int .u32, 1, 4, .int .u32 0⟩,
  ⟨.int .u8, 1, 1, .int .u8 0⟩,
  ⟨.int .u8, 1, 1, .int .u8 0⟩,
  ⟨.func #[69, 69] #[4] false, 1, 8, .nilFunc⟩,
  ⟨.int .i32, 1, 4, .int .i32 0⟩,
  ⟨.int .i32, 1, 4, .int .i32 0⟩,
  ⟨.struct #[⟨"Size_", 12, 0, false, "", "", 0⟩, ⟨"PtrBytes", 12, 1, false, "", "", 8⟩, ⟨"Hash", 79, 2, false, "", "", 16⟩, ⟨"TFlag", 80, 3, false, "", "", 20⟩, ⟨"Align_", 5, 4, false, "", "", 21⟩, ⟨"FieldAlign_", 5, 5, false, "", "", 22⟩, ⟨"Kind_", 81, 6, false, "", "", 23⟩, ⟨"Equal", 82, 7, false, "", "", 24⟩, ⟨"GCData", 66, 8, false, "", "", 32⟩, ⟨"Str", 83, 9, false, "", "", 40⟩, ⟨"PtrToThis", 84, 10, false, "", "", 44⟩], 11, 48, .agg #[.int .u64 0, .int .u64 0, .int .u32 0, .int .u8 0, .int .u8 0, .int .u8 0, .int .u8 0, .nilFunc, .pointer none, .int .i32 0, .int .i32 0]⟩,
  ⟨.struct #[⟨"Size_", 12, 0, false, "", "", 0⟩, ⟨"PtrBytes", 12, 1, false, "", "", 8⟩, ⟨"Hash", 79, 2, false, "", "", 16⟩, ⟨"TFlag", 80, 3, false, "", "", 20⟩, ⟨"Align_", 5, 4, false, "", "", 21⟩, ⟨"FieldAlign_", 5, 5, false, "", "", 22⟩, ⟨"Kind_", 81, 6, false, "", "", 23⟩, ⟨"Equal", 82, 7, false, "", "", 24⟩, ⟨"GCData", 66, 8, false, "", "", 32⟩, ⟨"Str", 83, 9, false, "", "", 40⟩, ⟨"PtrToThis", 84, 10, false, "", "", 44⟩], 11, 48, .agg #[.int .u64 0, .int .u64 0, .int .u32 0, .int .u8 0, .int .u8 0, .int .u8 0, .int .u8 0, .nilFunc, .pointer none, .int .i32 0, .int .i32 0]⟩]
theorem tab_eq : (List.range tab.length).map (fun t => (Tryd.prog.underlying t, (Tryd.prog.info? t).map fun i => (i.size, i.bytes, i.zero))) = tab.map (fun r => (some r.und, some (r.size, r.bytes, some r.zero))) := by kernel_rfl
theorem tabs : TabsOk Tryd.prog tab := fun _ _ h => tabOk_of tab_eq h
theorem tb {t : Nat} {r : TR} (h : tab[t]? = some r) : TabOk Tryd.prog t r := tabs t r h
theorem mixed : Tryd.prog.follows .mixedOrders = true := by kernel_rfl
noncomputable def callB (f : Nat) : Bool := match Tryd.prog.funcs[f]? with | some fn => !(fn.name == "runtime.NumGoroutine") && !fn.body.isNone | none => false
theorem callB_of {f : Nat} (h : callB f = true) : Callable Tryd.prog f := by
  unfold callB at h
  split at h
  · rename_i fn hfn
    simp only [Bool.and_eq_true, Bool.not_eq_true'] at h
    exact ⟨fn, hfn, h.1, h.2⟩
  · cases h
end Go.Proofs.YtebeckkkckijeaaDoor.E
