/- How names are read as data. -/
import Derived.Test.YtoccilnobgoncaaY2
import Derived.Test.YtoccilnobgoncaaSr
namespace Go.Proofs.Ytoccilnobgoncaa.E
open Go Go.RowKit
theorem reads_strs : Reads Try.prog 56 (rSl rStr) := reads_sl (reads_str (tb rfl : TabOk Try.prog 9 _) rfl rfl) (tb rfl) rfl rfl
theorem strs_flat (L : List (List UInt8)) : L.flatMap rStr.cells = strs L := by
  induction L with
  | nil => rfl
  | cons x xs ih => rw [List.flatMap_cons, ih]; rfl
theorem strs_src {s : Sl (List UInt8)} {W : World} (h : (rSl rStr).ok s (memOf W)) : has [exact_ W] (srcAt 1 s.A s.l.length (strs s.l)) := by
  have h1 : srcAt rStr.sz s.A s.l.length (s.l.flatMap rStr.cells) (memOf W) := h.2.2.1
  rw [strs_flat] at h1
  exact has_exact h1
end Go.Proofs.Ytoccilnobgoncaa.E
namespace Go.Proofs.Ytoccilnobgoncaa
theorem Try.own : ownKnob Try.prog.godebug = none := by kernel_rfl
theorem Try.laidOut : laidOutB Try.prog = true := by kernel_rfl
end Go.Proofs.Ytoccilnobgoncaa
