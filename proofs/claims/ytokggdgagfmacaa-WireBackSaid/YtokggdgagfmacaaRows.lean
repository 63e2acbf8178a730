/-
  No cell of these rows narrows 'for every input' (looked for: loops, veiled, ifaces, maps, wideKeys, modest, calm, conditions, laid).
  DERIVED. THE GIVEN ROWS OF THIS SEAT. 10 by the template 'for every input the law returns true; each argument reads behind the call as it read before'; 0 by the template 'total and deterministic' (their statements: YtokggdgagfmacaaTotals.lean).
  GIVEN WITH THE SEED: the statements are not yours to turn. If you find one false, say at which input.
  Laid BY PROGRAM, IN A SANDBOX (cutbox-rows.mjs): the forced cells as the released guide's own fill.sh prints them over the translation 63de914d0422b69f… (all of the seat's roots in one cut). By AI agents, Wed Nov 11 2026. No macro, syntax, notation, axiom, sorry.
-/
import Derived.Test.YtokggdgagfmacaaChecked
import GoSem.Claim
import GoSem.ClaimJoined
import GoSem.ClaimMapViews
import Derived.JoinedTies
import Derived.KernelRfl
namespace Go.Proofs.Ytokggdgagfmacaa
/- THE CELL 'sum', in the pinned program and in every row, IS THE sha256 OF THE DUMP (.gsa) THAT YtokggdgagfmacaaProg.lean LOADS. Nothing in Lean hashes anything: it is a label: what it is worth is what the hold of that sum in a sandbox is worth. -/
noncomputable def Try.pinned : Pinned := { name := "ytokggdgagfmacaa", sum := "63de914d0422b69fef55e2e1188904088e6fdb9ac74dfd91dc4372f110f6d92b", checked := Try.checked }
namespace Rows
def none {H : Type} : Left H := { results := [], args := [] }

/-- 'baileylaw06.WireFacts': WHATEVER THE INPUT: true; the input reads as it did. -/
def wireFactsSpec : ChangeSpec := { name := "wireFacts", fn := fun _ => fun
  | [d1, d2, d3, d4] => { results := [.lit (.bool true)], args := [d1, d2, d3, d4] }
  | _ => none }
def wireFactsRow : OpenClaim := { program := "ytokggdgagfmacaa", sum := "63de914d0422b69fef55e2e1188904088e6fdb9ac74dfd91dc4372f110f6d92b", func := "bailey/baileylaw06.WireFacts", spec := "wireFacts", unfollowed := true, recurses := true, apart := false }
def WireFactsSaid : Prop := wireFactsRow.holds Try.pinned (OpenSpec.ofChange wireFactsSpec)

/-- ITS FALSE NEIGHBOUR: 'it returns false'. Refute it at one input. -/
def wireFactsWrong : ChangeSpec := { name := "wireFacts", fn := fun _ => fun
  | [d1, d2, d3, d4] => { results := [.lit (.bool false)], args := [d1, d2, d3, d4] }
  | _ => none }
def WireFactsWrongFalsely : Prop := wireFactsRow.holds Try.pinned (OpenSpec.ofChange wireFactsWrong)

/-- 'baileylaw06.WireClauses': WHATEVER THE INPUT: true; the input reads as it did. -/
def wireClausesSpec : ChangeSpec := { name := "wireClauses", fn := fun _ => fun
  | [d1, d2, d3, d4] => { results := [.lit (.bool true)], args := [d1, d2, d3, d4] }
  | _ => none }
def wireClausesRow : OpenClaim := { program := "ytokggdgagfmacaa", sum := "63de914d0422b69fef55e2e1188904088e6fdb9ac74dfd91dc4372f110f6d92b", func := "bailey/baileylaw06.WireClauses", spec := "wireClauses", unfollowed := true, recurses := true, apart := false }
def WireClausesSaid : Prop := wireClausesRow.holds Try.pinned (OpenSpec.ofChange wireClausesSpec)

/-- ITS FALSE NEIGHBOUR: 'it returns false'. Refute it at one input. -/
def wireClausesWrong : ChangeSpec := { name := "wireClauses", fn := fun _ => fun
  | [d1, d2, d3, d4] => { results := [.lit (.bool false)], args := [d1, d2, d3, d4] }
  | _ => none }
def WireClausesWrongFalsely : Prop := wireClausesRow.holds Try.pinned (OpenSpec.ofChange wireClausesWrong)

/-- 'baileylaw06.WireRules': WHATEVER THE INPUT: true; the input reads as it did. -/
def wireRulesSpec : ChangeSpec := { name := "wireRules", fn := fun _ => fun
  | [d1, d2, d3, d4] => { results := [.lit (.bool true)], args := [d1, d2, d3, d4] }
  | _ => none }
def wireRulesRow : OpenClaim := { program := "ytokggdgagfmacaa", sum := "63de914d0422b69fef55e2e1188904088e6fdb9ac74dfd91dc4372f110f6d92b", func := "bailey/baileylaw06.WireRules", spec := "wireRules", unfollowed := true, recurses := true, apart := false }
def WireRulesSaid : Prop := wireRulesRow.holds Try.pinned (OpenSpec.ofChange wireRulesSpec)

/-- ITS FALSE NEIGHBOUR: 'it returns false'. Refute it at one input. -/
def wireRulesWrong : ChangeSpec := { name := "wireRules", fn := fun _ => fun
  | [d1, d2, d3, d4] => { results := [.lit (.bool false)], args := [d1, d2, d3, d4] }
  | _ => none }
def WireRulesWrongFalsely : Prop := wireRulesRow.holds Try.pinned (OpenSpec.ofChange wireRulesWrong)

/-- 'baileylaw06.WireTurned': WHATEVER THE INPUT: true; the input reads as it did. -/
def wireTurnedSpec : ChangeSpec := { name := "wireTurned", fn := fun _ => fun
  | [d1, d2, d3] => { results := [.lit (.bool true)], args := [d1, d2, d3] }
  | _ => none }
def wireTurnedRow : OpenClaim := { program := "ytokggdgagfmacaa", sum := "63de914d0422b69fef55e2e1188904088e6fdb9ac74dfd91dc4372f110f6d92b", func := "bailey/baileylaw06.WireTurned", spec := "wireTurned", unfollowed := true, recurses := true, apart := false }
def WireTurnedSaid : Prop := wireTurnedRow.holds Try.pinned (OpenSpec.ofChange wireTurnedSpec)

/-- ITS FALSE NEIGHBOUR: 'it returns false'. Refute it at one input. -/
def wireTurnedWrong : ChangeSpec := { name := "wireTurned", fn := fun _ => fun
  | [d1, d2, d3] => { results := [.lit (.bool false)], args := [d1, d2, d3] }
  | _ => none }
def WireTurnedWrongFalsely : Prop := wireTurnedRow.holds Try.pinned (OpenSpec.ofChange wireTurnedWrong)

/-- 'baileylaw06.WireBack': WHATEVER THE INPUT: true; the input reads as it did. -/
def wireBackSpec : ChangeSpec := { name := "wireBack", fn := fun _ => fun
  | [d1, d2, d3, d4, d5] => { results := [.lit (.bool true)], args := [d1, d2, d3, d4, d5] }
  | _ => none }
def wireBackRow : OpenClaim := { program := "ytokggdgagfmacaa", sum := "63de914d0422b69fef55e2e1188904088e6fdb9ac74dfd91dc4372f110f6d92b", func := "bailey/baileylaw06.WireBack", spec := "wireBack", unfollowed := true, recurses := true, apart := false }
def WireBackSaid : Prop := wireBackRow.holds Try.pinned (OpenSpec.ofChange wireBackSpec)

/-- ITS FALSE NEIGHBOUR: 'it returns false'. Refute it at one input. -/
def wireBackWrong : ChangeSpec := { name := "wireBack", fn := fun _ => fun
  | [d1, d2, d3, d4, d5] => { results := [.lit (.bool false)], args := [d1, d2, d3, d4, d5] }
  | _ => none }
def WireBackWrongFalsely : Prop := wireBackRow.holds Try.pinned (OpenSpec.ofChange wireBackWrong)

/-- 'baileylaw05.AtomsPut': WHATEVER THE INPUT: true; the input reads as it did. -/
def atomsPutSpec : ChangeSpec := { name := "atomsPut", fn := fun _ => fun
  | [d1, d2, d3, d4] => { results := [.lit (.bool true)], args := [d1, d2, d3, d4] }
  | _ => none }
def atomsPutRow : OpenClaim := { program := "ytokggdgagfmacaa", sum := "63de914d0422b69fef55e2e1188904088e6fdb9ac74dfd91dc4372f110f6d92b", func := "bailey/baileylaw05.AtomsPut", spec := "atomsPut", unfollowed := true, recurses := true, apart := false }
def AtomsPutSaid : Prop := atomsPutRow.holds Try.pinned (OpenSpec.ofChange atomsPutSpec)

/-- ITS FALSE NEIGHBOUR: 'it returns false'. Refute it at one input. -/
def atomsPutWrong : ChangeSpec := { name := "atomsPut", fn := fun _ => fun
  | [d1, d2, d3, d4] => { results := [.lit (.bool false)], args := [d1, d2, d3, d4] }
  | _ => none }
def AtomsPutWrongFalsely : Prop := atomsPutRow.holds Try.pinned (OpenSpec.ofChange atomsPutWrong)

/-- 'baileylaw05.AtomsPlays': WHATEVER THE INPUT: true; the input reads as it did. -/
def atomsPlaysSpec : ChangeSpec := { name := "atomsPlays", fn := fun _ => fun
  | [d1, d2, d3] => { results := [.lit (.bool true)], args := [d1, d2, d3] }
  | _ => none }
def atomsPlaysRow : OpenClaim := { program := "ytokggdgagfmacaa", sum := "63de914d0422b69fef55e2e1188904088e6fdb9ac74dfd91dc4372f110f6d92b", func := "bailey/baileylaw05.AtomsPlays", spec := "atomsPlays", unfollowed := true, recurses := true, apart := false }
def AtomsPlaysSaid : Prop := atomsPlaysRow.holds Try.pinned (OpenSpec.ofChange atomsPlaysSpec)

/-- ITS FALSE NEIGHBOUR: 'it returns false'. Refute it at one input. -/
def atomsPlaysWrong : ChangeSpec := { name := "atomsPlays", fn := fun _ => fun
  | [d1, d2, d3] => { results := [.lit (.bool false)], args := [d1, d2, d3] }
  | _ => none }
def AtomsPlaysWrongFalsely : Prop := atomsPlaysRow.holds Try.pinned (OpenSpec.ofChange atomsPlaysWrong)

/-- 'baileylaw05.AtomsOrder': WHATEVER THE INPUT: true; the input reads as it did. -/
def atomsOrderSpec : ChangeSpec := { name := "atomsOrder", fn := fun _ => fun
  | [d1, d2, d3] => { results := [.lit (.bool true)], args := [d1, d2, d3] }
  | _ => none }
def atomsOrderRow : OpenClaim := { program := "ytokggdgagfmacaa", sum := "63de914d0422b69fef55e2e1188904088e6fdb9ac74dfd91dc4372f110f6d92b", func := "bailey/baileylaw05.AtomsOrder", spec := "atomsOrder", unfollowed := true, recurses := true, apart := false }
def AtomsOrderSaid : Prop := atomsOrderRow.holds Try.pinned (OpenSpec.ofChange atomsOrderSpec)

/-- ITS FALSE NEIGHBOUR: 'it returns false'. Refute it at one input. -/
def atomsOrderWrong : ChangeSpec := { name := "atomsOrder", fn := fun _ => fun
  | [d1, d2, d3] => { results := [.lit (.bool false)], args := [d1, d2, d3] }
  | _ => none }
def AtomsOrderWrongFalsely : Prop := atomsOrderRow.holds Try.pinned (OpenSpec.ofChange atomsOrderWrong)

/-- 'baileylaw05.AtomsLoose': WHATEVER THE INPUT: true; the input reads as it did. -/
def atomsLooseSpec : ChangeSpec := { name := "atomsLoose", fn := fun _ => fun
  | [d1, d2, d3, d4] => { results := [.lit (.bool true)], args := [d1, d2, d3, d4] }
  | _ => none }
def atomsLooseRow : OpenClaim := { program := "ytokggdgagfmacaa", sum := "63de914d0422b69fef55e2e1188904088e6fdb9ac74dfd91dc4372f110f6d92b", func := "bailey/baileylaw05.AtomsLoose", spec := "atomsLoose", unfollowed := true, recurses := true, apart := false }
def AtomsLooseSaid : Prop := atomsLooseRow.holds Try.pinned (OpenSpec.ofChange atomsLooseSpec)

/-- ITS FALSE NEIGHBOUR: 'it returns false'. Refute it at one input. -/
def atomsLooseWrong : ChangeSpec := { name := "atomsLoose", fn := fun _ => fun
  | [d1, d2, d3, d4] => { results := [.lit (.bool false)], args := [d1, d2, d3, d4] }
  | _ => none }
def AtomsLooseWrongFalsely : Prop := atomsLooseRow.holds Try.pinned (OpenSpec.ofChange atomsLooseWrong)

/-- 'baileylaw05.AtomsMay': WHATEVER THE INPUT: true; the input reads as it did. -/
def atomsMaySpec : ChangeSpec := { name := "atomsMay", fn := fun _ => fun
  | [d1, d2] => { results := [.lit (.bool true)], args := [d1, d2] }
  | _ => none }
def atomsMayRow : OpenClaim := { program := "ytokggdgagfmacaa", sum := "63de914d0422b69fef55e2e1188904088e6fdb9ac74dfd91dc4372f110f6d92b", func := "bailey/baileylaw05.AtomsMay", spec := "atomsMay", unfollowed := true, recurses := true, apart := false }
def AtomsMaySaid : Prop := atomsMayRow.holds Try.pinned (OpenSpec.ofChange atomsMaySpec)

/-- ITS FALSE NEIGHBOUR: 'it returns false'. Refute it at one input. -/
def atomsMayWrong : ChangeSpec := { name := "atomsMay", fn := fun _ => fun
  | [d1, d2] => { results := [.lit (.bool false)], args := [d1, d2] }
  | _ => none }
def AtomsMayWrongFalsely : Prop := atomsMayRow.holds Try.pinned (OpenSpec.ofChange atomsMayWrong)

/- THE SECOND FORM. 'bulk': how many values and letters a reading holds, each counted each time it is reached (what is shared counts as often as it is met; a slice's spare places count too). A statement '..UptoSaid' is the law's where the arguments, and the package variables that the reading takes, are together of bulk at most 1048576: NARROWER than '..Said'. Prove '..Said' where nothing that the law and all that it calls make is longer than what came in: it says more and counts as full. Else prove '..UptoSaid'. A law counts once. -/
mutual
def uptoBulk {H : Type} : DataW H → Nat
  | .lit (.string bytes) => bytes.length + 1
  | .lit _ => 1
  | .nil => 1
  | .ptr d => uptoBulk d + 1
  | .slice elems spare => uptoBulkAll elems + uptoBulkAll spare + 1
  | .agg parts => uptoBulkAll parts + 1
  | .iface _ d => uptoBulk d + 1
  | .map entries => uptoBulkEntries entries + 1
  | .held _ => 1
def uptoBulkAll {H : Type} : List (DataW H) → Nat
  | [] => 0
  | d :: r => uptoBulk d + uptoBulkAll r
def uptoBulkEntries {H : Type} : List (Lit × DataW H) → Nat
  | [] => 0
  | x :: r => uptoBulkEntry x + uptoBulkEntries r
def uptoBulkEntry {H : Type} : Lit × DataW H → Nat
  | (.string bytes, d) => bytes.length + uptoBulk d + 1
  | (_, d) => uptoBulk d + 1
 end
def uptoSmall : (H : Type) → List (DataW H) → Bool := fun _ ds => decide (uptoBulkAll ds ≤ 1048576)
def OpenSpec.upto (s : _root_.Go.ChangeSpec) : _root_.Go.OpenSpec := { _root_.Go.OpenSpec.ofChange s with cond := some uptoSmall }

/-- 'baileylaw06.WireFacts', WHERE WHAT IT READS IS OF BULK AT MOST 1048576: true; the input reads as it did. -/
def wireFactsUptoRow : OpenClaim := { program := "ytokggdgagfmacaa", sum := "63de914d0422b69fef55e2e1188904088e6fdb9ac74dfd91dc4372f110f6d92b", func := "bailey/baileylaw06.WireFacts", spec := "wireFacts", unfollowed := true, recurses := true, apart := false, narrowed := true }
def WireFactsUptoSaid : Prop := wireFactsUptoRow.holds Try.pinned (OpenSpec.upto wireFactsSpec)

/-- 'baileylaw06.WireClauses', WHERE WHAT IT READS IS OF BULK AT MOST 1048576: true; the input reads as it did. -/
def wireClausesUptoRow : OpenClaim := { program := "ytokggdgagfmacaa", sum := "63de914d0422b69fef55e2e1188904088e6fdb9ac74dfd91dc4372f110f6d92b", func := "bailey/baileylaw06.WireClauses", spec := "wireClauses", unfollowed := true, recurses := true, apart := false, narrowed := true }
def WireClausesUptoSaid : Prop := wireClausesUptoRow.holds Try.pinned (OpenSpec.upto wireClausesSpec)

/-- 'baileylaw06.WireRules', WHERE WHAT IT READS IS OF BULK AT MOST 1048576: true; the input reads as it did. -/
def wireRulesUptoRow : OpenClaim := { program := "ytokggdgagfmacaa", sum := "63de914d0422b69fef55e2e1188904088e6fdb9ac74dfd91dc4372f110f6d92b", func := "bailey/baileylaw06.WireRules", spec := "wireRules", unfollowed := true, recurses := true, apart := false, narrowed := true }
def WireRulesUptoSaid : Prop := wireRulesUptoRow.holds Try.pinned (OpenSpec.upto wireRulesSpec)

/-- 'baileylaw06.WireTurned', WHERE WHAT IT READS IS OF BULK AT MOST 1048576: true; the input reads as it did. -/
def wireTurnedUptoRow : OpenClaim := { program := "ytokggdgagfmacaa", sum := "63de914d0422b69fef55e2e1188904088e6fdb9ac74dfd91dc4372f110f6d92b", func := "bailey/baileylaw06.WireTurned", spec := "wireTurned", unfollowed := true, recurses := true, apart := false, narrowed := true }
def WireTurnedUptoSaid : Prop := wireTurnedUptoRow.holds Try.pinned (OpenSpec.upto wireTurnedSpec)

/-- 'baileylaw06.WireBack', WHERE WHAT IT READS IS OF BULK AT MOST 1048576: true; the input reads as it did. -/
def wireBackUptoRow : OpenClaim := { program := "ytokggdgagfmacaa", sum := "63de914d0422b69fef55e2e1188904088e6fdb9ac74dfd91dc4372f110f6d92b", func := "bailey/baileylaw06.WireBack", spec := "wireBack", unfollowed := true, recurses := true, apart := false, narrowed := true }
def WireBackUptoSaid : Prop := wireBackUptoRow.holds Try.pinned (OpenSpec.upto wireBackSpec)

/-- 'baileylaw05.AtomsPut', WHERE WHAT IT READS IS OF BULK AT MOST 1048576: true; the input reads as it did. -/
def atomsPutUptoRow : OpenClaim := { program := "ytokggdgagfmacaa", sum := "63de914d0422b69fef55e2e1188904088e6fdb9ac74dfd91dc4372f110f6d92b", func := "bailey/baileylaw05.AtomsPut", spec := "atomsPut", unfollowed := true, recurses := true, apart := false, narrowed := true }
def AtomsPutUptoSaid : Prop := atomsPutUptoRow.holds Try.pinned (OpenSpec.upto atomsPutSpec)

/-- 'baileylaw05.AtomsPlays', WHERE WHAT IT READS IS OF BULK AT MOST 1048576: true; the input reads as it did. -/
def atomsPlaysUptoRow : OpenClaim := { program := "ytokggdgagfmacaa", sum := "63de914d0422b69fef55e2e1188904088e6fdb9ac74dfd91dc4372f110f6d92b", func := "bailey/baileylaw05.AtomsPlays", spec := "atomsPlays", unfollowed := true, recurses := true, apart := false, narrowed := true }
def AtomsPlaysUptoSaid : Prop := atomsPlaysUptoRow.holds Try.pinned (OpenSpec.upto atomsPlaysSpec)

/-- 'baileylaw05.AtomsOrder', WHERE WHAT IT READS IS OF BULK AT MOST 1048576: true; the input reads as it did. -/
def atomsOrderUptoRow : OpenClaim := { program := "ytokggdgagfmacaa", sum := "63de914d0422b69fef55e2e1188904088e6fdb9ac74dfd91dc4372f110f6d92b", func := "bailey/baileylaw05.AtomsOrder", spec := "atomsOrder", unfollowed := true, recurses := true, apart := false, narrowed := true }
def AtomsOrderUptoSaid : Prop := atomsOrderUptoRow.holds Try.pinned (OpenSpec.upto atomsOrderSpec)

/-- 'baileylaw05.AtomsLoose', WHERE WHAT IT READS IS OF BULK AT MOST 1048576: true; the input reads as it did. -/
def atomsLooseUptoRow : OpenClaim := { program := "ytokggdgagfmacaa", sum := "63de914d0422b69fef55e2e1188904088e6fdb9ac74dfd91dc4372f110f6d92b", func := "bailey/baileylaw05.AtomsLoose", spec := "atomsLoose", unfollowed := true, recurses := true, apart := false, narrowed := true }
def AtomsLooseUptoSaid : Prop := atomsLooseUptoRow.holds Try.pinned (OpenSpec.upto atomsLooseSpec)

/-- 'baileylaw05.AtomsMay', WHERE WHAT IT READS IS OF BULK AT MOST 1048576: true; the input reads as it did. -/
def atomsMayUptoRow : OpenClaim := { program := "ytokggdgagfmacaa", sum := "63de914d0422b69fef55e2e1188904088e6fdb9ac74dfd91dc4372f110f6d92b", func := "bailey/baileylaw05.AtomsMay", spec := "atomsMay", unfollowed := true, recurses := true, apart := false, narrowed := true }
def AtomsMayUptoSaid : Prop := atomsMayUptoRow.holds Try.pinned (OpenSpec.upto atomsMaySpec)

end Rows
end Go.Proofs.Ytokggdgagfmacaa
