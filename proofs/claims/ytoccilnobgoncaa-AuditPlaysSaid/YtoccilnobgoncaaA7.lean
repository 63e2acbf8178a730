/- How records are read as data. -/
import Derived.Test.YtoccilnobgoncaaA3
namespace Go.Proofs.Ytoccilnobgoncaa.E
open Go Go.RowKit Go.Proofs
/-! ### how records are read -/
def rFct : Rd Fct := ⟨2, fun f => [.int .u32 f.p, f.args.v], fun f m => (rInt .u32).ok f.p m ∧ (rSl (rInt .u32)).ok f.args m⟩
theorem reads_args : Reads Try.prog 29 (rSl (rInt .u32)) := reads_sl (reads_int (tb rfl : TabOk Try.prog 28 _) rfl rfl) (tb rfl) rfl rfl
theorem reads_fct : Reads Try.prog 31 rFct :=
  have ht : TabOk Try.prog 31 _ := tb rfl
  ⟨by rw [ht.cellsOf]; rfl, fun _ => rfl, fun f x y hxy h => ⟨h.1, reads_args.up _ x y hxy h.2⟩, fun enc w fuel cs x h => by
    obtain ⟨p, h1, h2⟩ := read_field ht rfl h (R := rInt .u32) 0 _ rfl (reads_int (tb rfl) rfl rfl)
    obtain ⟨a, h3, h4⟩ := read_field ht rfl h (R := rSl (rInt .u32)) 1 _ rfl reads_args
    exact ⟨⟨p, a⟩, cut2 h1 h3 (trod_field ht rfl h).1 rfl, h2, h4⟩⟩
def rRec : Rd Rec := ⟨4, recCells, fun r m => (rInt .u64).ok r.t m ∧ rFct.ok r.q m ∧ (rInt .u8).ok r.w m⟩
theorem reads_rec : Reads Try.prog 33 rRec :=
  have ht : TabOk Try.prog 33 _ := tb rfl
  ⟨by rw [ht.cellsOf]; rfl, fun _ => rfl, fun f x y hxy h => ⟨h.1, reads_fct.up _ x y hxy h.2.1, h.2.2⟩, fun enc w fuel cs x h => by
    obtain ⟨t, h1, h2⟩ := read_field ht rfl h (R := rInt .u64) 0 _ rfl (reads_int (tb rfl) rfl rfl)
    obtain ⟨q, h3, h4⟩ := read_field ht rfl h (R := rFct) 1 _ rfl reads_fct
    obtain ⟨v, h5, h6⟩ := read_field ht rfl h (R := rInt .u8) 2 _ rfl (reads_int (tb rfl) rfl rfl)
    exact ⟨⟨t, q, v⟩, cut3 h1 h3 h5 (trod_field ht rfl h).1 rfl, h2, h4, h6⟩⟩
theorem reads_recs : Reads Try.prog 22 (rSl rRec) := reads_sl reads_rec (tb rfl) rfl rfl
theorem nums_flat (q : IntKind) (xs : List Int) : xs.flatMap (rInt q).cells = nums q xs := by
  induction xs with
  | nil => rfl
  | cons x xs ih => rw [List.flatMap_cons, ih]; rfl
theorem rec_args {r : Rec} {m : Mem} (h : rRec.ok r m) : argsAt r.q.args m := by
  have h1 : srcAt (rInt .u32).sz r.q.args.A r.q.args.l.length (r.q.args.l.flatMap (rInt .u32).cells) m := h.2.1.2.2.2.1
  rw [nums_flat] at h1
  exact h1
end Go.Proofs.Ytoccilnobgoncaa.E
namespace Go.Proofs.Ytoccilnobgoncaa
theorem Try.own : ownKnob Try.prog.godebug = none := by kernel_rfl
theorem Try.laidOut : laidOutB Try.prog = true := by kernel_rfl
end Go.Proofs.Ytoccilnobgoncaa
