/-
  No cell of these rows narrows 'for every input' (looked for: loops, veiled, ifaces, maps, wideKeys, modest, calm, conditions, laid).
  DERIVED. THE GIVEN ROWS OF THIS SEAT. 11 by the template 'for every input the law returns true; each argument reads behind the call as it read before'; 0 by the template 'total and deterministic' (their statements: YtndmjpceocecdaaTotals.lean).
  GIVEN WITH THE SEED: the statements are not yours to turn. If you find one false, say at which input.
  Laid BY PROGRAM, IN A SANDBOX (cutbox-rows.mjs): the forced cells as the released guide's own fill.sh prints them over the translation a7b6f46893c7508a… (all of the seat's roots in one cut). By AI agents, Wed Nov 11 2026. No macro, syntax, notation, axiom, sorry.
-/
import Derived.Test.YtndmjpceocecdaaChecked
import GoSem.Claim
import GoSem.ClaimJoined
import GoSem.ClaimMapViews
import Derived.JoinedTies
import Derived.KernelRfl
namespace Go.Proofs.Ytndmjpceocecdaa
/- THE CELL 'sum', in the pinned program and in every row, IS THE sha256 OF THE DUMP (.gsa) THAT YtndmjpceocecdaaProg.lean LOADS. Nothing in Lean hashes anything: it is a label: what it is worth is what the hold of that sum in a sandbox is worth. -/
noncomputable def Try.pinned : Pinned := { name := "ytndmjpceocecdaa", sum := "a7b6f46893c7508a10dc3e3269caea03c5dd46dc86a3258c68d42eb8018dc168", checked := Try.checked }
namespace Rows
def none {H : Type} : Left H := { results := [], args := [] }

/-- 'baileylaw11.SafePlays': WHATEVER THE INPUT: true; the input reads as it did. -/
def safePlaysSpec : ChangeSpec := { name := "safePlays", fn := fun _ => fun
  | [d1, d2] => { results := [.lit (.bool true)], args := [d1, d2] }
  | _ => none }
def safePlaysRow : OpenClaim := { program := "ytndmjpceocecdaa", sum := "a7b6f46893c7508a10dc3e3269caea03c5dd46dc86a3258c68d42eb8018dc168", func := "bailey/baileylaw11.SafePlays", spec := "safePlays", unfollowed := true, recurses := true, apart := false }
def SafePlaysSaid : Prop := safePlaysRow.holds Try.pinned (OpenSpec.ofChange safePlaysSpec)

/-- ITS FALSE NEIGHBOUR: 'it returns false'. Refute it at one input. -/
def safePlaysWrong : ChangeSpec := { name := "safePlays", fn := fun _ => fun
  | [d1, d2] => { results := [.lit (.bool false)], args := [d1, d2] }
  | _ => none }
def SafePlaysWrongFalsely : Prop := safePlaysRow.holds Try.pinned (OpenSpec.ofChange safePlaysWrong)

/-- 'baileylaw11.SafeParts': WHATEVER THE INPUT: true; the input reads as it did. -/
def safePartsSpec : ChangeSpec := { name := "safeParts", fn := fun _ => fun
  | [d1, d2, d3] => { results := [.lit (.bool true)], args := [d1, d2, d3] }
  | _ => none }
def safePartsRow : OpenClaim := { program := "ytndmjpceocecdaa", sum := "a7b6f46893c7508a10dc3e3269caea03c5dd46dc86a3258c68d42eb8018dc168", func := "bailey/baileylaw11.SafeParts", spec := "safeParts", unfollowed := true, recurses := true, apart := false }
def SafePartsSaid : Prop := safePartsRow.holds Try.pinned (OpenSpec.ofChange safePartsSpec)

/-- ITS FALSE NEIGHBOUR: 'it returns false'. Refute it at one input. -/
def safePartsWrong : ChangeSpec := { name := "safeParts", fn := fun _ => fun
  | [d1, d2, d3] => { results := [.lit (.bool false)], args := [d1, d2, d3] }
  | _ => none }
def SafePartsWrongFalsely : Prop := safePartsRow.holds Try.pinned (OpenSpec.ofChange safePartsWrong)

/-- 'baileylaw11.SafeNames': WHATEVER THE INPUT: true; the input reads as it did. -/
def safeNamesSpec : ChangeSpec := { name := "safeNames", fn := fun _ => fun
  | [d1, d2, d3, d4] => { results := [.lit (.bool true)], args := [d1, d2, d3, d4] }
  | _ => none }
def safeNamesRow : OpenClaim := { program := "ytndmjpceocecdaa", sum := "a7b6f46893c7508a10dc3e3269caea03c5dd46dc86a3258c68d42eb8018dc168", func := "bailey/baileylaw11.SafeNames", spec := "safeNames", unfollowed := true, recurses := true, apart := false }
def SafeNamesSaid : Prop := safeNamesRow.holds Try.pinned (OpenSpec.ofChange safeNamesSpec)

/-- ITS FALSE NEIGHBOUR: 'it returns false'. Refute it at one input. -/
def safeNamesWrong : ChangeSpec := { name := "safeNames", fn := fun _ => fun
  | [d1, d2, d3, d4] => { results := [.lit (.bool false)], args := [d1, d2, d3, d4] }
  | _ => none }
def SafeNamesWrongFalsely : Prop := safeNamesRow.holds Try.pinned (OpenSpec.ofChange safeNamesWrong)

/-- 'baileylaw09.GraphPlays': WHATEVER THE INPUT: true; the input reads as it did. -/
def graphPlaysSpec : ChangeSpec := { name := "graphPlays", fn := fun _ => fun
  | [d1, d2, d3] => { results := [.lit (.bool true)], args := [d1, d2, d3] }
  | _ => none }
def graphPlaysRow : OpenClaim := { program := "ytndmjpceocecdaa", sum := "a7b6f46893c7508a10dc3e3269caea03c5dd46dc86a3258c68d42eb8018dc168", func := "bailey/baileylaw09.GraphPlays", spec := "graphPlays", inPlace := ["slices.overlaps[int]"], unfollowed := true, recurses := true, apart := false }
def GraphPlaysSaid : Prop := graphPlaysRow.holds Try.pinned (OpenSpec.ofChange graphPlaysSpec)

/-- ITS FALSE NEIGHBOUR: 'it returns false'. Refute it at one input. -/
def graphPlaysWrong : ChangeSpec := { name := "graphPlays", fn := fun _ => fun
  | [d1, d2, d3] => { results := [.lit (.bool false)], args := [d1, d2, d3] }
  | _ => none }
def GraphPlaysWrongFalsely : Prop := graphPlaysRow.holds Try.pinned (OpenSpec.ofChange graphPlaysWrong)

/-- 'baileylaw09.GraphOrder': WHATEVER THE INPUT: true; the input reads as it did. -/
def graphOrderSpec : ChangeSpec := { name := "graphOrder", fn := fun _ => fun
  | [d1, d2] => { results := [.lit (.bool true)], args := [d1, d2] }
  | _ => none }
def graphOrderRow : OpenClaim := { program := "ytndmjpceocecdaa", sum := "a7b6f46893c7508a10dc3e3269caea03c5dd46dc86a3258c68d42eb8018dc168", func := "bailey/baileylaw09.GraphOrder", spec := "graphOrder", inPlace := ["slices.overlaps[int]"], unfollowed := true, recurses := true, apart := false }
def GraphOrderSaid : Prop := graphOrderRow.holds Try.pinned (OpenSpec.ofChange graphOrderSpec)

/-- ITS FALSE NEIGHBOUR: 'it returns false'. Refute it at one input. -/
def graphOrderWrong : ChangeSpec := { name := "graphOrder", fn := fun _ => fun
  | [d1, d2] => { results := [.lit (.bool false)], args := [d1, d2] }
  | _ => none }
def GraphOrderWrongFalsely : Prop := graphOrderRow.holds Try.pinned (OpenSpec.ofChange graphOrderWrong)

/-- 'baileylaw09.GraphTurned': WHATEVER THE INPUT: true; the input reads as it did. -/
def graphTurnedSpec : ChangeSpec := { name := "graphTurned", fn := fun _ => fun
  | [d1, d2, d3, d4] => { results := [.lit (.bool true)], args := [d1, d2, d3, d4] }
  | _ => none }
def graphTurnedRow : OpenClaim := { program := "ytndmjpceocecdaa", sum := "a7b6f46893c7508a10dc3e3269caea03c5dd46dc86a3258c68d42eb8018dc168", func := "bailey/baileylaw09.GraphTurned", spec := "graphTurned", inPlace := ["slices.overlaps[int]"], unfollowed := true, recurses := true, apart := false }
def GraphTurnedSaid : Prop := graphTurnedRow.holds Try.pinned (OpenSpec.ofChange graphTurnedSpec)

/-- ITS FALSE NEIGHBOUR: 'it returns false'. Refute it at one input. -/
def graphTurnedWrong : ChangeSpec := { name := "graphTurned", fn := fun _ => fun
  | [d1, d2, d3, d4] => { results := [.lit (.bool false)], args := [d1, d2, d3, d4] }
  | _ => none }
def GraphTurnedWrongFalsely : Prop := graphTurnedRow.holds Try.pinned (OpenSpec.ofChange graphTurnedWrong)

/-- 'baileylaw09.GraphEnds': WHATEVER THE INPUT: true; the input reads as it did. -/
def graphEndsSpec : ChangeSpec := { name := "graphEnds", fn := fun _ => fun
  | [d1, d2] => { results := [.lit (.bool true)], args := [d1, d2] }
  | _ => none }
def graphEndsRow : OpenClaim := { program := "ytndmjpceocecdaa", sum := "a7b6f46893c7508a10dc3e3269caea03c5dd46dc86a3258c68d42eb8018dc168", func := "bailey/baileylaw09.GraphEnds", spec := "graphEnds", inPlace := ["slices.overlaps[int]"], unfollowed := true, recurses := true, apart := false }
def GraphEndsSaid : Prop := graphEndsRow.holds Try.pinned (OpenSpec.ofChange graphEndsSpec)

/-- ITS FALSE NEIGHBOUR: 'it returns false'. Refute it at one input. -/
def graphEndsWrong : ChangeSpec := { name := "graphEnds", fn := fun _ => fun
  | [d1, d2] => { results := [.lit (.bool false)], args := [d1, d2] }
  | _ => none }
def GraphEndsWrongFalsely : Prop := graphEndsRow.holds Try.pinned (OpenSpec.ofChange graphEndsWrong)

/-- 'baileylaw09.GraphMore': WHATEVER THE INPUT: true; the input reads as it did. -/
def graphMoreSpec : ChangeSpec := { name := "graphMore", fn := fun _ => fun
  | [d1, d2, d3, d4] => { results := [.lit (.bool true)], args := [d1, d2, d3, d4] }
  | _ => none }
def graphMoreRow : OpenClaim := { program := "ytndmjpceocecdaa", sum := "a7b6f46893c7508a10dc3e3269caea03c5dd46dc86a3258c68d42eb8018dc168", func := "bailey/baileylaw09.GraphMore", spec := "graphMore", inPlace := ["slices.overlaps[int]"], unfollowed := true, recurses := true, apart := false }
def GraphMoreSaid : Prop := graphMoreRow.holds Try.pinned (OpenSpec.ofChange graphMoreSpec)

/-- ITS FALSE NEIGHBOUR: 'it returns false'. Refute it at one input. -/
def graphMoreWrong : ChangeSpec := { name := "graphMore", fn := fun _ => fun
  | [d1, d2, d3, d4] => { results := [.lit (.bool false)], args := [d1, d2, d3, d4] }
  | _ => none }
def GraphMoreWrongFalsely : Prop := graphMoreRow.holds Try.pinned (OpenSpec.ofChange graphMoreWrong)

/-- 'baileylaw12.StratLeast': WHATEVER THE INPUT: true; the input reads as it did. -/
def stratLeastSpec : ChangeSpec := { name := "stratLeast", fn := fun _ => fun
  | [d] => { results := [.lit (.bool true)], args := [d] }
  | _ => none }
def stratLeastRow : OpenClaim := { program := "ytndmjpceocecdaa", sum := "a7b6f46893c7508a10dc3e3269caea03c5dd46dc86a3258c68d42eb8018dc168", func := "bailey/baileylaw12.StratLeast", spec := "stratLeast", inPlace := ["slices.overlaps[int]"], unfollowed := true, recurses := true, apart := false }
def StratLeastSaid : Prop := stratLeastRow.holds Try.pinned (OpenSpec.ofChange stratLeastSpec)

/-- ITS FALSE NEIGHBOUR: 'it returns false'. Refute it at one input. -/
def stratLeastWrong : ChangeSpec := { name := "stratLeast", fn := fun _ => fun
  | [d] => { results := [.lit (.bool false)], args := [d] }
  | _ => none }
def StratLeastWrongFalsely : Prop := stratLeastRow.holds Try.pinned (OpenSpec.ofChange stratLeastWrong)

/-- 'baileylaw12.StratPlain': WHATEVER THE INPUT: true; the input reads as it did. -/
def stratPlainSpec : ChangeSpec := { name := "stratPlain", fn := fun _ => fun
  | [d] => { results := [.lit (.bool true)], args := [d] }
  | _ => none }
def stratPlainRow : OpenClaim := { program := "ytndmjpceocecdaa", sum := "a7b6f46893c7508a10dc3e3269caea03c5dd46dc86a3258c68d42eb8018dc168", func := "bailey/baileylaw12.StratPlain", spec := "stratPlain", inPlace := ["slices.overlaps[int]"], unfollowed := true, recurses := true, apart := false }
def StratPlainSaid : Prop := stratPlainRow.holds Try.pinned (OpenSpec.ofChange stratPlainSpec)

/-- ITS FALSE NEIGHBOUR: 'it returns false'. Refute it at one input. -/
def stratPlainWrong : ChangeSpec := { name := "stratPlain", fn := fun _ => fun
  | [d] => { results := [.lit (.bool false)], args := [d] }
  | _ => none }
def StratPlainWrongFalsely : Prop := stratPlainRow.holds Try.pinned (OpenSpec.ofChange stratPlainWrong)

/-- 'baileylaw12.StratHolds': WHATEVER THE INPUT: true; the input reads as it did. -/
def stratHoldsSpec : ChangeSpec := { name := "stratHolds", fn := fun _ => fun
  | [d1, d2] => { results := [.lit (.bool true)], args := [d1, d2] }
  | _ => none }
def stratHoldsRow : OpenClaim := { program := "ytndmjpceocecdaa", sum := "a7b6f46893c7508a10dc3e3269caea03c5dd46dc86a3258c68d42eb8018dc168", func := "bailey/baileylaw12.StratHolds", spec := "stratHolds", inPlace := ["slices.overlaps[int]"], unfollowed := true, recurses := true, apart := false }
def StratHoldsSaid : Prop := stratHoldsRow.holds Try.pinned (OpenSpec.ofChange stratHoldsSpec)

/-- ITS FALSE NEIGHBOUR: 'it returns false'. Refute it at one input. -/
def stratHoldsWrong : ChangeSpec := { name := "stratHolds", fn := fun _ => fun
  | [d1, d2] => { results := [.lit (.bool false)], args := [d1, d2] }
  | _ => none }
def StratHoldsWrongFalsely : Prop := stratHoldsRow.holds Try.pinned (OpenSpec.ofChange stratHoldsWrong)

/- THE SECOND FORM. 'bulk': how many values and letters a reading holds, each counted each time it is reached (what is shared counts as often as it is met; a slice's spare places count too). A statement '..UptoSaid' is the law's where the arguments, and the package variables that the reading takes, are together of bulk at most 1048576: NARROWER than '..Said'. Prove '..Said' where nothing that the law and all that it calls make is longer than what came in: it says more and counts as full. Else prove '..UptoSaid'. A law counts once. -/
mutual
def uptoBulk {H : Type} : DataW H → Nat
  | .lit (.string bytes) => bytes.length + 1
  | .lit _ => 1
  | .nil => 1
  | .ptr d => uptoBulk d + 1
  | .slice elems spare => uptoBulkAll elems + uptoBulkAll spare + 1
  | .agg parts => uptoBulkAll parts + 1
  | .iface _ d => uptoBulk d + 1
  | .map entries => uptoBulkEntries entries + 1
  | .held _ => 1
def uptoBulkAll {H : Type} : List (DataW H) → Nat
  | [] => 0
  | d :: r => uptoBulk d + uptoBulkAll r
def uptoBulkEntries {H : Type} : List (Lit × DataW H) → Nat
  | [] => 0
  | x :: r => uptoBulkEntry x + uptoBulkEntries r
def uptoBulkEntry {H : Type} : Lit × DataW H → Nat
  | (.string bytes, d) => bytes.length + uptoBulk d + 1
  | (_, d) => uptoBulk d + 1
 end
def uptoSmall : (H : Type) → List (DataW H) → Bool := fun _ ds => decide (uptoBulkAll ds ≤ 1048576)
def OpenSpec.upto (s : _root_.Go.ChangeSpec) : _root_.Go.OpenSpec := { _root_.Go.OpenSpec.ofChange s with cond := some uptoSmall }

/-- 'baileylaw11.SafePlays', WHERE WHAT IT READS IS OF BULK AT MOST 1048576: true; the input reads as it did. -/
def safePlaysUptoRow : OpenClaim := { program := "ytndmjpceocecdaa", sum := "a7b6f46893c7508a10dc3e3269caea03c5dd46dc86a3258c68d42eb8018dc168", func := "bailey/baileylaw11.SafePlays", spec := "safePlays", unfollowed := true, recurses := true, apart := false, narrowed := true }
def SafePlaysUptoSaid : Prop := safePlaysUptoRow.holds Try.pinned (OpenSpec.upto safePlaysSpec)

/-- 'baileylaw11.SafeParts', WHERE WHAT IT READS IS OF BULK AT MOST 1048576: true; the input reads as it did. -/
def safePartsUptoRow : OpenClaim := { program := "ytndmjpceocecdaa", sum := "a7b6f46893c7508a10dc3e3269caea03c5dd46dc86a3258c68d42eb8018dc168", func := "bailey/baileylaw11.SafeParts", spec := "safeParts", unfollowed := true, recurses := true, apart := false, narrowed := true }
def SafePartsUptoSaid : Prop := safePartsUptoRow.holds Try.pinned (OpenSpec.upto safePartsSpec)

/-- 'baileylaw11.SafeNames', WHERE WHAT IT READS IS OF BULK AT MOST 1048576: true; the input reads as it did. -/
def safeNamesUptoRow : OpenClaim := { program := "ytndmjpceocecdaa", sum := "a7b6f46893c7508a10dc3e3269caea03c5dd46dc86a3258c68d42eb8018dc168", func := "bailey/baileylaw11.SafeNames", spec := "safeNames", unfollowed := true, recurses := true, apart := false, narrowed := true }
def SafeNamesUptoSaid : Prop := safeNamesUptoRow.holds Try.pinned (OpenSpec.upto safeNamesSpec)

/-- 'baileylaw09.GraphPlays', WHERE WHAT IT READS IS OF BULK AT MOST 1048576: true; the input reads as it did. -/
def graphPlaysUptoRow : OpenClaim := { program := "ytndmjpceocecdaa", sum := "a7b6f46893c7508a10dc3e3269caea03c5dd46dc86a3258c68d42eb8018dc168", func := "bailey/baileylaw09.GraphPlays", spec := "graphPlays", inPlace := ["slices.overlaps[int]"], unfollowed := true, recurses := true, apart := false, narrowed := true }
def GraphPlaysUptoSaid : Prop := graphPlaysUptoRow.holds Try.pinned (OpenSpec.upto graphPlaysSpec)

/-- 'baileylaw09.GraphOrder', WHERE WHAT IT READS IS OF BULK AT MOST 1048576: true; the input reads as it did. -/
def graphOrderUptoRow : OpenClaim := { program := "ytndmjpceocecdaa", sum := "a7b6f46893c7508a10dc3e3269caea03c5dd46dc86a3258c68d42eb8018dc168", func := "bailey/baileylaw09.GraphOrder", spec := "graphOrder", inPlace := ["slices.overlaps[int]"], unfollowed := true, recurses := true, apart := false, narrowed := true }
def GraphOrderUptoSaid : Prop := graphOrderUptoRow.holds Try.pinned (OpenSpec.upto graphOrderSpec)

/-- 'baileylaw09.GraphTurned', WHERE WHAT IT READS IS OF BULK AT MOST 1048576: true; the input reads as it did. -/
def graphTurnedUptoRow : OpenClaim := { program := "ytndmjpceocecdaa", sum := "a7b6f46893c7508a10dc3e3269caea03c5dd46dc86a3258c68d42eb8018dc168", func := "bailey/baileylaw09.GraphTurned", spec := "graphTurned", inPlace := ["slices.overlaps[int]"], unfollowed := true, recurses := true, apart := false, narrowed := true }
def GraphTurnedUptoSaid : Prop := graphTurnedUptoRow.holds Try.pinned (OpenSpec.upto graphTurnedSpec)

/-- 'baileylaw09.GraphEnds', WHERE WHAT IT READS IS OF BULK AT MOST 1048576: true; the input reads as it did. -/
def graphEndsUptoRow : OpenClaim := { program := "ytndmjpceocecdaa", sum := "a7b6f46893c7508a10dc3e3269caea03c5dd46dc86a3258c68d42eb8018dc168", func := "bailey/baileylaw09.GraphEnds", spec := "graphEnds", inPlace := ["slices.overlaps[int]"], unfollowed := true, recurses := true, apart := false, narrowed := true }
def GraphEndsUptoSaid : Prop := graphEndsUptoRow.holds Try.pinned (OpenSpec.upto graphEndsSpec)

/-- 'baileylaw09.GraphMore', WHERE WHAT IT READS IS OF BULK AT MOST 1048576: true; the input reads as it did. -/
def graphMoreUptoRow : OpenClaim := { program := "ytndmjpceocecdaa", sum := "a7b6f46893c7508a10dc3e3269caea03c5dd46dc86a3258c68d42eb8018dc168", func := "bailey/baileylaw09.GraphMore", spec := "graphMore", inPlace := ["slices.overlaps[int]"], unfollowed := true, recurses := true, apart := false, narrowed := true }
def GraphMoreUptoSaid : Prop := graphMoreUptoRow.holds Try.pinned (OpenSpec.upto graphMoreSpec)

/-- 'baileylaw12.StratLeast', WHERE WHAT IT READS IS OF BULK AT MOST 1048576: true; the input reads as it did. -/
def stratLeastUptoRow : OpenClaim := { program := "ytndmjpceocecdaa", sum := "a7b6f46893c7508a10dc3e3269caea03c5dd46dc86a3258c68d42eb8018dc168", func := "bailey/baileylaw12.StratLeast", spec := "stratLeast", inPlace := ["slices.overlaps[int]"], unfollowed := true, recurses := true, apart := false, narrowed := true }
def StratLeastUptoSaid : Prop := stratLeastUptoRow.holds Try.pinned (OpenSpec.upto stratLeastSpec)

/-- 'baileylaw12.StratPlain', WHERE WHAT IT READS IS OF BULK AT MOST 1048576: true; the input reads as it did. -/
def stratPlainUptoRow : OpenClaim := { program := "ytndmjpceocecdaa", sum := "a7b6f46893c7508a10dc3e3269caea03c5dd46dc86a3258c68d42eb8018dc168", func := "bailey/baileylaw12.StratPlain", spec := "stratPlain", inPlace := ["slices.overlaps[int]"], unfollowed := true, recurses := true, apart := false, narrowed := true }
def StratPlainUptoSaid : Prop := stratPlainUptoRow.holds Try.pinned (OpenSpec.upto stratPlainSpec)

/-- 'baileylaw12.StratHolds', WHERE WHAT IT READS IS OF BULK AT MOST 1048576: true; the input reads as it did. -/
def stratHoldsUptoRow : OpenClaim := { program := "ytndmjpceocecdaa", sum := "a7b6f46893c7508a10dc3e3269caea03c5dd46dc86a3258c68d42eb8018dc168", func := "bailey/baileylaw12.StratHolds", spec := "stratHolds", inPlace := ["slices.overlaps[int]"], unfollowed := true, recurses := true, apart := false, narrowed := true }
def StratHoldsUptoSaid : Prop := stratHoldsUptoRow.holds Try.pinned (OpenSpec.upto stratHoldsSpec)

end Rows
end Go.Proofs.Ytndmjpceocecdaa
