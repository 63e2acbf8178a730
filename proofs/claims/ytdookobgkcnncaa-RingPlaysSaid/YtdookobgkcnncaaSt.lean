import Derived.Test.YtdookobgkcnncaaSd
import Derived.Test.YtdookobgkcnncaaProg
import Derived.KernelRfl
/- THE TABLES: written by a program of mine (tabs.py), held against the loaded program by the kernel. -/
namespace Go.Proofs.Ytdookobgkcnncaa.E
open Go Go.Proofs
set_option maxRecDepth 100000
noncomputable def tab : List TR := [
  ⟨.tuple #[], 1, 0, .tuple #[]⟩,
  ⟨.func #[] #[] false, 1, 8, .nilFunc⟩,
  ⟨.int .i64, 1, 8, .int .i64 0⟩,
  ⟨.int .i64, 1, 8, .int .i64 0⟩,
  ⟨.bool, 1, 1, .bool false⟩,
  ⟨.int .u8, 1, 1, .int .u8 0⟩,
  ⟨.int .u8, 1, 1, .int .u8 0⟩,
  ⟨.struct #[⟨"x", 2, 0, false, "", "runtime", 0⟩, ⟨"y", 3, 1, false, "", "runtime", 8⟩, ⟨"signed", 4, 2, false, "", "runtime", 16⟩, ⟨"code", 6, 3, false, "", "runtime", 17⟩], 4, 24, .agg #[.int .i64 0, .int .i64 0, .bool false, .int .u8 0]⟩,
  ⟨.struct #[⟨"x", 2, 0, false, "", "runtime", 0⟩, ⟨"y", 3, 1, false, "", "runtime", 8⟩, ⟨"signed", 4, 2, false, "", "runtime", 16⟩, ⟨"code", 6, 3, false, "", "runtime", 17⟩], 4, 24, .agg #[.int .i64 0, .int .i64 0, .bool false, .int .u8 0]⟩,
  ⟨.string, 1, 16, .string ⟨#[]⟩⟩,
  ⟨.string, 1, 16, .string ⟨#[]⟩⟩,
  ⟨.string, 1, 16, .string ⟨#[]⟩⟩,
  ⟨.int .u64, 1, 8, .int .u64 0⟩,
  ⟨.struct #[⟨"msg", 9, 0, false, "", "runtime", 0⟩, ⟨"addr", 12, 1, false, "", "runtime", 16⟩], 2, 24, .agg #[.string ⟨#[]⟩, .int .u64 0]⟩,
  ⟨.struct #[⟨"msg", 9, 0, false, "", "runtime", 0⟩, ⟨"addr", 12, 1, false, "", "runtime", 16⟩], 2, 24, .agg #[.string ⟨#[]⟩, .int .u64 0]⟩,
  ⟨.pointer 78, 1, 8, .pointer none⟩,
  ⟨.pointer 81, 1, 8, .pointer none⟩,
  ⟨.pointer 90, 1, 8, .pointer none⟩,
  ⟨.struct #[⟨"typ", 17, 0, false, "", "internal/runtime/maps", 0⟩], 1, 8, .agg #[.pointer none]⟩,
  ⟨.struct #[⟨"typ", 17, 0, false, "", "internal/runtime/maps", 0⟩], 1, 8, .agg #[.pointer none]⟩,
  ⟨.interface #[], 1, 16, .nilIface⟩,
  ⟨.int .i32, 1, 4, .int .i32 0⟩,
  ⟨.slice 34, 1, 24, .slice none 0 0⟩,
  ⟨.func #[22] #[4] false, 1, 8, .nilFunc⟩,
  ⟨.func #[] #[4] false, 1, 8, .nilFunc⟩,
  ⟨.pointer 48, 1, 8, .pointer none⟩,
  ⟨.func #[] #[25] false, 1, 8, .nilFunc⟩,
  ⟨.pointer 30, 1, 8, .pointer none⟩,
  ⟨.slice 43, 1, 24, .slice none 0 0⟩,
  ⟨.struct #[⟨"L", 28, 0, false, "", "", 0⟩], 1, 24, .agg #[.slice none 0 0]⟩,
  ⟨.struct #[⟨"L", 28, 0, false, "", "", 0⟩], 1, 24, .agg #[.slice none 0 0]⟩,
  ⟨.int .u32, 1, 4, .int .u32 0⟩,
  ⟨.slice 5, 1, 24, .slice none 0 0⟩,
  ⟨.struct #[⟨"Drop", 4, 0, false, "", "", 0⟩, ⟨"Who", 31, 1, false, "", "", 4⟩, ⟨"Key", 32, 2, false, "", "", 8⟩], 3, 32, .agg #[.bool false, .int .u32 0, .slice none 0 0]⟩,
  ⟨.struct #[⟨"Drop", 4, 0, false, "", "", 0⟩, ⟨"Who", 31, 1, false, "", "", 4⟩, ⟨"Key", 32, 2, false, "", "", 8⟩], 3, 32, .agg #[.bool false, .int .u32 0, .slice none 0 0]⟩,
  ⟨.int .i64, 1, 8, .int .i64 0⟩,
  ⟨.func #[31] #[35] false, 1, 8, .nilFunc⟩,
  ⟨.func #[31, 32] #[35] false, 1, 8, .nilFunc⟩,
  ⟨.tuple #[32, 4], 1, 0, .tuple #[.slice none 0 0, .bool false]⟩,
  ⟨.func #[31] #[32, 4] false, 1, 8, .nilFunc⟩,
  ⟨.slice 31, 1, 24, .slice none 0 0⟩,
  ⟨.func #[] #[40] false, 1, 8, .nilFunc⟩,
  ⟨.struct #[⟨"Who", 31, 0, false, "", "", 0⟩, ⟨"Key", 9, 1, false, "", "", 8⟩], 2, 24, .agg #[.int .u32 0, .string ⟨#[]⟩]⟩,
  ⟨.struct #[⟨"Who", 31, 0, false, "", "", 0⟩, ⟨"Key", 9, 1, false, "", "", 8⟩], 2, 24, .agg #[.int .u32 0, .string ⟨#[]⟩]⟩,
  ⟨.func #[22, 31] #[4] false, 1, 8, .nilFunc⟩,
  ⟨.func #[31, 32] #[4] false, 1, 8, .nilFunc⟩,
  ⟨.map 31 32, 1, 8, .map none⟩,
  ⟨.struct #[⟨"keys", 46, 0, false, "", "bailey/ring", 0⟩], 1, 8, .agg #[.map none]⟩,
  ⟨.struct #[⟨"keys", 46, 0, false, "", "bailey/ring", 0⟩], 1, 8, .agg #[.map none]⟩,
  ⟨.func #[31] #[3] false, 1, 8, .nilFunc⟩,
  ⟨.func #[32] #[32] false, 1, 8, .nilFunc⟩,
  ⟨.func #[40] #[] false, 1, 8, .nilFunc⟩,
  ⟨.func #[40, 3, 3, 3] #[] false, 1, 8, .nilFunc⟩,
  ⟨.func #[54] #[3] false, 1, 8, .nilFunc⟩,
  ⟨.int .u64, 1, 8, .int .u64 0⟩,
  ⟨.func #[40, 3, 3] #[] false, 1, 8, .nilFunc⟩,
  ⟨.int .i64, 1, 8, .int .i64 0⟩,
  ⟨.tuple #[3, 56], 1, 0, .tuple #[.int .i64 0, .int .i64 0]⟩,
  ⟨.func #[40, 3, 3] #[3, 56] false, 1, 8, .nilFunc⟩,
  ⟨.func #[40, 3, 3] #[4] false, 1, 8, .nilFunc⟩,
  ⟨.func #[31, 31] #[4] false, 1, 8, .nilFunc⟩,
  ⟨.func #[40, 3, 3, 3] #[3] false, 1, 8, .nilFunc⟩,
  ⟨.tuple #[3, 4], 1, 0, .tuple #[.int .i64 0, .bool false]⟩,
  ⟨.func #[40, 3, 3, 3] #[3, 4] false, 1, 8, .nilFunc⟩,
  ⟨.func #[65] #[3] false, 1, 8, .nilFunc⟩,
  ⟨.int .u64, 1, 8, .int .u64 0⟩,
  ⟨.int .u64, 1, 8, .int .u64 0⟩,
  ⟨.func #[3] #[54] false, 1, 8, .nilFunc⟩,
  ⟨.func #[] #[65] false, 1, 8, .nilFunc⟩,
  ⟨.func #[40, 3, 70] #[3] false, 1, 8, .nilFunc⟩,
  ⟨.pointer 3, 1, 8, .pointer none⟩,
  ⟨.func #[40, 3, 3, 3, 70] #[3] false, 1, 8, .nilFunc⟩,
  ⟨.func #[31] #[4] false, 1, 8, .nilFunc⟩,
  ⟨.pointer 66, 1, 8, .pointer none⟩,
  ⟨.tuple #[3, 3], 1, 0, .tuple #[.int .i64 0, .int .i64 0]⟩,
  ⟨.func #[40, 3, 3, 70] #[3, 3] false, 1, 8, .nilFunc⟩,
  ⟨.func #[] #[9] false, 1, 8, .nilFunc⟩,
  ⟨.struct #[⟨"_interface", 17, 0, false, "", "runtime", 0⟩, ⟨"concrete", 17, 1, false, "", "runtime", 8⟩, ⟨"asserted", 17, 2, false, "", "runtime", 16⟩, ⟨"missingMethod", 9, 3, false, "", "runtime", 24⟩], 4, 40, .agg #[.pointer none, .pointer none, .pointer none, .string ⟨#[]⟩]⟩,
  ⟨.struct #[⟨"_interface", 17, 0, false, "", "runtime", 0⟩, ⟨"concrete", 17, 1, false, "", "runtime", 8⟩, ⟨"asserted", 17, 2, false, "", "runtime", 16⟩, ⟨"missingMethod", 9, 3, false, "", "runtime", 24⟩], 4, 40, .agg #[.pointer none, .pointer none, .pointer none, .string ⟨#[]⟩]⟩,
  ⟨.array 0 16, 0, 0, .agg #[]⟩,
  ⟨.struct #[⟨"_", 79, 0, false, "", "runtime", 0⟩], 0, 0, .agg #[]⟩,
  ⟨.struct #[⟨"_", 79, 0, false, "", "runtime", 0⟩], 0, 0, .agg #[]⟩,
  ⟨.func #[] #[3] false, 1, 8, .nilFunc⟩,
  ⟨.int .u8, 1, 1, .int .u8 0⟩,
  ⟨.int .u8, 1, 1, .int .u8 0⟩,
  ⟨.func #[91, 91] #[4] false, 1, 8, .nilFunc⟩,
  ⟨.pointer 5, 1, 8, .pointer none⟩,
  ⟨.int .i32, 1, 4, .int .i32 0⟩,
  ⟨.int .i32, 1, 4, .int .i32 0⟩,
  ⟨.struct #[⟨"Size_", 12, 0, false, "", "", 0⟩, ⟨"PtrBytes", 12, 1, false, "", "", 8⟩, ⟨"Hash", 31, 2, false, "", "", 16⟩, ⟨"TFlag", 83, 3, false, "", "", 20⟩, ⟨"Align_", 5, 4, false, "", "", 21⟩, ⟨"FieldAlign_", 5, 5, false, "", "", 22⟩, ⟨"Kind_", 84, 6, false, "", "", 23⟩, ⟨"Equal", 85, 7, false, "", "", 24⟩, ⟨"GCData", 86, 8, false, "", "", 32⟩, ⟨"Str", 87, 9, false, "", "", 40⟩, ⟨"PtrToThis", 88, 10, false, "", "", 44⟩], 11, 48, .agg #[.int .u64 0, .int .u64 0, .int .u32 0, .int .u8 0, .int .u8 0, .int .u8 0, .int .u8 0, .nilFunc, .pointer none, .int .i32 0, .int .i32 0]⟩,
  ⟨.struct #[⟨"Size_", 12, 0, false, "", "", 0⟩, ⟨"PtrBytes", 12, 1, false, "", "", 8⟩, ⟨"Hash", 31, 2, false, "", "", 16⟩, ⟨"TFlag", 83, 3, false, "", "", 20⟩, ⟨"Align_", 5, 4, false, "", "", 21⟩, ⟨"FieldAlign_", 5, 5, false, "", "", 22⟩, ⟨"Kind_", 84, 6, false, "", "", 23⟩, ⟨"Equal", 85, 7, false, "", "", 24⟩, ⟨"GCData", 86, 8, false, "", "", 32⟩, ⟨"Str", 87, 9, false, "", "", 40⟩, ⟨"PtrToThis", 88, 10, false, "", "", 44⟩], 11, 48, .agg #[.int .u64 0, .int .u64 0, .int .u32 0, .int .u8 0, .int .u8 0, .int .u8 0, .int .u8 0, .nilFunc, .pointer none, .int .i32 0, .int .i32 0]⟩,
  ⟨.unsafePointer, 1, 8, .pointer none⟩]
theorem tab_eq : (List.range tab.length).map (fun t => (Try.prog.underlying t, (Try.prog.info? t).map fun i => (i.size, i.bytes, i.zero))) = tab.map (fun r => (some r.und, some (r.size, r.bytes, some r.zero))) := by kernel_rfl
theorem tabs : TabsOk Try.prog tab := fun _ _ h => tabOk_of tab_eq h
theorem tb {t : Nat} {r : TR} (h : tab[t]? = some r) : TabOk Try.prog t r := tabs t r h
theorem mixed : Try.prog.follows .mixedOrders = true := by kernel_rfl
noncomputable def callB (f : Nat) : Bool := match Try.prog.funcs[f]? with | some fn => !(fn.name == "runtime.NumGoroutine") && !fn.body.isNone | none => false
theorem callB_of {f : Nat} (h : callB f = true) : Callable Try.prog f := by
  unfold callB at h
  split at h
  · rename_i fn hfn
    simp only [Bool.and_eq_true, Bool.not_eq_true'] at h
    exact ⟨fn, hfn, h.1, h.2⟩
  · cases h
end Go.Proofs.Ytdookobgkcnncaa.E
