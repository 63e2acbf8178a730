/-
  No cell of these rows narrows 'for every input' (looked for: loops, veiled, ifaces, maps, wideKeys, modest, calm, conditions, laid).
  DERIVED. THE GIVEN ROWS OF THIS SEAT. 12 by the template 'for every input the law returns true; each argument reads behind the call as it read before'; 0 by the template 'total and deterministic' (their statements: YtoccilnobgoncaaTotals.lean).
  GIVEN WITH THE SEED: the statements are not yours to turn. If you find one false, say at which input.
  Laid BY PROGRAM, IN A SANDBOX (cutbox-rows.mjs): the forced cells as the released guide's own fill.sh prints them over the translation 8b527fe720661fe7… (all of the seat's roots in one cut). By AI agents, Wed Nov 11 2026. No macro, syntax, notation, axiom, sorry.
-/
import Derived.Test.YtoccilnobgoncaaChecked
import GoSem.Claim
import GoSem.ClaimJoined
import GoSem.ClaimMapViews
import Derived.JoinedTies
import Derived.KernelRfl
namespace Go.Proofs.Ytoccilnobgoncaa
/- THE CELL 'sum', in the pinned program and in every row, IS THE sha256 OF THE DUMP (.gsa) THAT YtoccilnobgoncaaProg.lean LOADS. Nothing in Lean hashes anything: it is a label: what it is worth is what the hold of that sum in a sandbox is worth. -/
noncomputable def Try.pinned : Pinned := { name := "ytoccilnobgoncaa", sum := "8b527fe720661fe77926e03f0e2edce4e2de7da96eda5b1e2de87f9f753746ce", checked := Try.checked }
namespace Rows
def none {H : Type} : Left H := { results := [], args := [] }

/-- 'baileylaw25.AuditPlays': WHATEVER THE INPUT: true; the input reads as it did. -/
def auditPlaysSpec : ChangeSpec := { name := "auditPlays", fn := fun _ => fun
  | [d1, d2] => { results := [.lit (.bool true)], args := [d1, d2] }
  | _ => none }
def auditPlaysRow : OpenClaim := { program := "ytoccilnobgoncaa", sum := "8b527fe720661fe77926e03f0e2edce4e2de7da96eda5b1e2de87f9f753746ce", func := "bailey/baileylaw25.AuditPlays", spec := "auditPlays", apart := false }
def AuditPlaysSaid : Prop := auditPlaysRow.holds Try.pinned (OpenSpec.ofChange auditPlaysSpec)

/-- ITS FALSE NEIGHBOUR: 'it returns false'. Refute it at one input. -/
def auditPlaysWrong : ChangeSpec := { name := "auditPlays", fn := fun _ => fun
  | [d1, d2] => { results := [.lit (.bool false)], args := [d1, d2] }
  | _ => none }
def AuditPlaysWrongFalsely : Prop := auditPlaysRow.holds Try.pinned (OpenSpec.ofChange auditPlaysWrong)

/-- 'baileylaw25.AuditNil': WHATEVER THE INPUT: true; the input reads as it did. -/
def auditNilSpec : ChangeSpec := { name := "auditNil", fn := fun _ => fun
  | [d1, d2] => { results := [.lit (.bool true)], args := [d1, d2] }
  | _ => none }
def auditNilRow : OpenClaim := { program := "ytoccilnobgoncaa", sum := "8b527fe720661fe77926e03f0e2edce4e2de7da96eda5b1e2de87f9f753746ce", func := "bailey/baileylaw25.AuditNil", spec := "auditNil", apart := false }
def AuditNilSaid : Prop := auditNilRow.holds Try.pinned (OpenSpec.ofChange auditNilSpec)

/-- ITS FALSE NEIGHBOUR: 'it returns false'. Refute it at one input. -/
def auditNilWrong : ChangeSpec := { name := "auditNil", fn := fun _ => fun
  | [d1, d2] => { results := [.lit (.bool false)], args := [d1, d2] }
  | _ => none }
def AuditNilWrongFalsely : Prop := auditNilRow.holds Try.pinned (OpenSpec.ofChange auditNilWrong)

/-- 'baileylaw04.SymsEnds': WHATEVER THE INPUT: true; the input reads as it did. -/
def symsEndsSpec : ChangeSpec := { name := "symsEnds", fn := fun _ => fun
  | [d1, d2, d3, d4] => { results := [.lit (.bool true)], args := [d1, d2, d3, d4] }
  | _ => none }
def symsEndsRow : OpenClaim := { program := "ytoccilnobgoncaa", sum := "8b527fe720661fe77926e03f0e2edce4e2de7da96eda5b1e2de87f9f753746ce", func := "bailey/baileylaw04.SymsEnds", spec := "symsEnds", apart := false }
def SymsEndsSaid : Prop := symsEndsRow.holds Try.pinned (OpenSpec.ofChange symsEndsSpec)

/-- ITS FALSE NEIGHBOUR: 'it returns false'. Refute it at one input. -/
def symsEndsWrong : ChangeSpec := { name := "symsEnds", fn := fun _ => fun
  | [d1, d2, d3, d4] => { results := [.lit (.bool false)], args := [d1, d2, d3, d4] }
  | _ => none }
def SymsEndsWrongFalsely : Prop := symsEndsRow.holds Try.pinned (OpenSpec.ofChange symsEndsWrong)

/-- 'baileylaw04.SymsNil': WHATEVER THE INPUT: true; the input reads as it did. -/
def symsNilSpec : ChangeSpec := { name := "symsNil", fn := fun _ => fun
  | [d1, d2] => { results := [.lit (.bool true)], args := [d1, d2] }
  | _ => none }
def symsNilRow : OpenClaim := { program := "ytoccilnobgoncaa", sum := "8b527fe720661fe77926e03f0e2edce4e2de7da96eda5b1e2de87f9f753746ce", func := "bailey/baileylaw04.SymsNil", spec := "symsNil", apart := false }
def SymsNilSaid : Prop := symsNilRow.holds Try.pinned (OpenSpec.ofChange symsNilSpec)

/-- ITS FALSE NEIGHBOUR: 'it returns false'. Refute it at one input. -/
def symsNilWrong : ChangeSpec := { name := "symsNil", fn := fun _ => fun
  | [d1, d2] => { results := [.lit (.bool false)], args := [d1, d2] }
  | _ => none }
def SymsNilWrongFalsely : Prop := symsNilRow.holds Try.pinned (OpenSpec.ofChange symsNilWrong)

/-- 'baileylaw04.SymsPlays': WHATEVER THE INPUT: true; the input reads as it did. -/
def symsPlaysSpec : ChangeSpec := { name := "symsPlays", fn := fun _ => fun
  | [d1, d2, d3] => { results := [.lit (.bool true)], args := [d1, d2, d3] }
  | _ => none }
def symsPlaysRow : OpenClaim := { program := "ytoccilnobgoncaa", sum := "8b527fe720661fe77926e03f0e2edce4e2de7da96eda5b1e2de87f9f753746ce", func := "bailey/baileylaw04.SymsPlays", spec := "symsPlays", apart := false }
def SymsPlaysSaid : Prop := symsPlaysRow.holds Try.pinned (OpenSpec.ofChange symsPlaysSpec)

/-- ITS FALSE NEIGHBOUR: 'it returns false'. Refute it at one input. -/
def symsPlaysWrong : ChangeSpec := { name := "symsPlays", fn := fun _ => fun
  | [d1, d2, d3] => { results := [.lit (.bool false)], args := [d1, d2, d3] }
  | _ => none }
def SymsPlaysWrongFalsely : Prop := symsPlaysRow.holds Try.pinned (OpenSpec.ofChange symsPlaysWrong)

/-- 'baileylaw04.SymsStay': WHATEVER THE INPUT: true; the input reads as it did. -/
def symsStaySpec : ChangeSpec := { name := "symsStay", fn := fun _ => fun
  | [d1, d2] => { results := [.lit (.bool true)], args := [d1, d2] }
  | _ => none }
def symsStayRow : OpenClaim := { program := "ytoccilnobgoncaa", sum := "8b527fe720661fe77926e03f0e2edce4e2de7da96eda5b1e2de87f9f753746ce", func := "bailey/baileylaw04.SymsStay", spec := "symsStay", apart := false }
def SymsStaySaid : Prop := symsStayRow.holds Try.pinned (OpenSpec.ofChange symsStaySpec)

/-- ITS FALSE NEIGHBOUR: 'it returns false'. Refute it at one input. -/
def symsStayWrong : ChangeSpec := { name := "symsStay", fn := fun _ => fun
  | [d1, d2] => { results := [.lit (.bool false)], args := [d1, d2] }
  | _ => none }
def SymsStayWrongFalsely : Prop := symsStayRow.holds Try.pinned (OpenSpec.ofChange symsStayWrong)

/-- 'baileylaw04.SymsOrder': WHATEVER THE INPUT: true; the input reads as it did. -/
def symsOrderSpec : ChangeSpec := { name := "symsOrder", fn := fun _ => fun
  | [d1, d2] => { results := [.lit (.bool true)], args := [d1, d2] }
  | _ => none }
def symsOrderRow : OpenClaim := { program := "ytoccilnobgoncaa", sum := "8b527fe720661fe77926e03f0e2edce4e2de7da96eda5b1e2de87f9f753746ce", func := "bailey/baileylaw04.SymsOrder", spec := "symsOrder", apart := false }
def SymsOrderSaid : Prop := symsOrderRow.holds Try.pinned (OpenSpec.ofChange symsOrderSpec)

/-- ITS FALSE NEIGHBOUR: 'it returns false'. Refute it at one input. -/
def symsOrderWrong : ChangeSpec := { name := "symsOrder", fn := fun _ => fun
  | [d1, d2] => { results := [.lit (.bool false)], args := [d1, d2] }
  | _ => none }
def SymsOrderWrongFalsely : Prop := symsOrderRow.holds Try.pinned (OpenSpec.ofChange symsOrderWrong)

/-- 'baileylaw01.OctetVars': WHATEVER THE INPUT: true; the input reads as it did. -/
def octetVarsSpec : ChangeSpec := { name := "octetVars", fn := fun _ => fun
  | [d1, d2, d3] => { results := [.lit (.bool true)], args := [d1, d2, d3] }
  | _ => none }
def octetVarsRow : OpenClaim := { program := "ytoccilnobgoncaa", sum := "8b527fe720661fe77926e03f0e2edce4e2de7da96eda5b1e2de87f9f753746ce", func := "bailey/baileylaw01.OctetVars", spec := "octetVars", unfollowed := true, recurses := true, apart := false }
def OctetVarsSaid : Prop := octetVarsRow.holds Try.pinned (OpenSpec.ofChange octetVarsSpec)

/-- ITS FALSE NEIGHBOUR: 'it returns false'. Refute it at one input. -/
def octetVarsWrong : ChangeSpec := { name := "octetVars", fn := fun _ => fun
  | [d1, d2, d3] => { results := [.lit (.bool false)], args := [d1, d2, d3] }
  | _ => none }
def OctetVarsWrongFalsely : Prop := octetVarsRow.holds Try.pinned (OpenSpec.ofChange octetVarsWrong)

/-- 'baileylaw01.OctetShort': WHATEVER THE INPUT: true; the input reads as it did. -/
def octetShortSpec : ChangeSpec := { name := "octetShort", fn := fun _ => fun
  | [d] => { results := [.lit (.bool true)], args := [d] }
  | _ => none }
def octetShortRow : OpenClaim := { program := "ytoccilnobgoncaa", sum := "8b527fe720661fe77926e03f0e2edce4e2de7da96eda5b1e2de87f9f753746ce", func := "bailey/baileylaw01.OctetShort", spec := "octetShort", unfollowed := true, recurses := true, apart := false }
def OctetShortSaid : Prop := octetShortRow.holds Try.pinned (OpenSpec.ofChange octetShortSpec)

/-- ITS FALSE NEIGHBOUR: 'it returns false'. Refute it at one input. -/
def octetShortWrong : ChangeSpec := { name := "octetShort", fn := fun _ => fun
  | [d] => { results := [.lit (.bool false)], args := [d] }
  | _ => none }
def OctetShortWrongFalsely : Prop := octetShortRow.holds Try.pinned (OpenSpec.ofChange octetShortWrong)

/-- 'baileylaw01.OctetStrings': WHATEVER THE INPUT: true; the input reads as it did. -/
def octetStringsSpec : ChangeSpec := { name := "octetStrings", fn := fun _ => fun
  | [d1, d2, d3, d4] => { results := [.lit (.bool true)], args := [d1, d2, d3, d4] }
  | _ => none }
def octetStringsRow : OpenClaim := { program := "ytoccilnobgoncaa", sum := "8b527fe720661fe77926e03f0e2edce4e2de7da96eda5b1e2de87f9f753746ce", func := "bailey/baileylaw01.OctetStrings", spec := "octetStrings", unfollowed := true, recurses := true, apart := false }
def OctetStringsSaid : Prop := octetStringsRow.holds Try.pinned (OpenSpec.ofChange octetStringsSpec)

/-- ITS FALSE NEIGHBOUR: 'it returns false'. Refute it at one input. -/
def octetStringsWrong : ChangeSpec := { name := "octetStrings", fn := fun _ => fun
  | [d1, d2, d3, d4] => { results := [.lit (.bool false)], args := [d1, d2, d3, d4] }
  | _ => none }
def OctetStringsWrongFalsely : Prop := octetStringsRow.holds Try.pinned (OpenSpec.ofChange octetStringsWrong)

/-- 'baileylaw01.OctetRows': WHATEVER THE INPUT: true; the input reads as it did. -/
def octetRowsSpec : ChangeSpec := { name := "octetRows", fn := fun _ => fun
  | [d1, d2, d3] => { results := [.lit (.bool true)], args := [d1, d2, d3] }
  | _ => none }
def octetRowsRow : OpenClaim := { program := "ytoccilnobgoncaa", sum := "8b527fe720661fe77926e03f0e2edce4e2de7da96eda5b1e2de87f9f753746ce", func := "bailey/baileylaw01.OctetRows", spec := "octetRows", unfollowed := true, recurses := true, apart := false }
def OctetRowsSaid : Prop := octetRowsRow.holds Try.pinned (OpenSpec.ofChange octetRowsSpec)

/-- ITS FALSE NEIGHBOUR: 'it returns false'. Refute it at one input. -/
def octetRowsWrong : ChangeSpec := { name := "octetRows", fn := fun _ => fun
  | [d1, d2, d3] => { results := [.lit (.bool false)], args := [d1, d2, d3] }
  | _ => none }
def OctetRowsWrongFalsely : Prop := octetRowsRow.holds Try.pinned (OpenSpec.ofChange octetRowsWrong)

/-- 'baileylaw01.OctetBack': WHATEVER THE INPUT: true; the input reads as it did. -/
def octetBackSpec : ChangeSpec := { name := "octetBack", fn := fun _ => fun
  | [d1, d2, d3, d4, d5, d6] => { results := [.lit (.bool true)], args := [d1, d2, d3, d4, d5, d6] }
  | _ => none }
def octetBackRow : OpenClaim := { program := "ytoccilnobgoncaa", sum := "8b527fe720661fe77926e03f0e2edce4e2de7da96eda5b1e2de87f9f753746ce", func := "bailey/baileylaw01.OctetBack", spec := "octetBack", unfollowed := true, recurses := true, apart := false }
def OctetBackSaid : Prop := octetBackRow.holds Try.pinned (OpenSpec.ofChange octetBackSpec)

/-- ITS FALSE NEIGHBOUR: 'it returns false'. Refute it at one input. -/
def octetBackWrong : ChangeSpec := { name := "octetBack", fn := fun _ => fun
  | [d1, d2, d3, d4, d5, d6] => { results := [.lit (.bool false)], args := [d1, d2, d3, d4, d5, d6] }
  | _ => none }
def OctetBackWrongFalsely : Prop := octetBackRow.holds Try.pinned (OpenSpec.ofChange octetBackWrong)

/- THE SECOND FORM. 'bulk': how many values and letters a reading holds, each counted each time it is reached (what is shared counts as often as it is met; a slice's spare places count too). A statement '..UptoSaid' is the law's where the arguments, and the package variables that the reading takes, are together of bulk at most 1048576: NARROWER than '..Said'. Prove '..Said' where nothing that the law and all that it calls make is longer than what came in: it says more and counts as full. Else prove '..UptoSaid'. A law counts once. -/
mutual
def uptoBulk {H : Type} : DataW H → Nat
  | .lit (.string bytes) => bytes.length + 1
  | .lit _ => 1
  | .nil => 1
  | .ptr d => uptoBulk d + 1
  | .slice elems spare => uptoBulkAll elems + uptoBulkAll spare + 1
  | .agg parts => uptoBulkAll parts + 1
  | .iface _ d => uptoBulk d + 1
  | .map entries => uptoBulkEntries entries + 1
  | .held _ => 1
def uptoBulkAll {H : Type} : List (DataW H) → Nat
  | [] => 0
  | d :: r => uptoBulk d + uptoBulkAll r
def uptoBulkEntries {H : Type} : List (Lit × DataW H) → Nat
  | [] => 0
  | x :: r => uptoBulkEntry x + uptoBulkEntries r
def uptoBulkEntry {H : Type} : Lit × DataW H → Nat
  | (.string bytes, d) => bytes.length + uptoBulk d + 1
  | (_, d) => uptoBulk d + 1
 end
def uptoSmall : (H : Type) → List (DataW H) → Bool := fun _ ds => decide (uptoBulkAll ds ≤ 1048576)
def OpenSpec.upto (s : _root_.Go.ChangeSpec) : _root_.Go.OpenSpec := { _root_.Go.OpenSpec.ofChange s with cond := some uptoSmall }

/-- 'baileylaw25.AuditPlays', WHERE WHAT IT READS IS OF BULK AT MOST 1048576: true; the input reads as it did. -/
def auditPlaysUptoRow : OpenClaim := { program := "ytoccilnobgoncaa", sum := "8b527fe720661fe77926e03f0e2edce4e2de7da96eda5b1e2de87f9f753746ce", func := "bailey/baileylaw25.AuditPlays", spec := "auditPlays", apart := false, narrowed := true }
def AuditPlaysUptoSaid : Prop := auditPlaysUptoRow.holds Try.pinned (OpenSpec.upto auditPlaysSpec)

/-- 'baileylaw25.AuditNil', WHERE WHAT IT READS IS OF BULK AT MOST 1048576: true; the input reads as it did. -/
def auditNilUptoRow : OpenClaim := { program := "ytoccilnobgoncaa", sum := "8b527fe720661fe77926e03f0e2edce4e2de7da96eda5b1e2de87f9f753746ce", func := "bailey/baileylaw25.AuditNil", spec := "auditNil", apart := false, narrowed := true }
def AuditNilUptoSaid : Prop := auditNilUptoRow.holds Try.pinned (OpenSpec.upto auditNilSpec)

/-- 'baileylaw04.SymsEnds', WHERE WHAT IT READS IS OF BULK AT MOST 1048576: true; the input reads as it did. -/
def symsEndsUptoRow : OpenClaim := { program := "ytoccilnobgoncaa", sum := "8b527fe720661fe77926e03f0e2edce4e2de7da96eda5b1e2de87f9f753746ce", func := "bailey/baileylaw04.SymsEnds", spec := "symsEnds", apart := false, narrowed := true }
def SymsEndsUptoSaid : Prop := symsEndsUptoRow.holds Try.pinned (OpenSpec.upto symsEndsSpec)

/-- 'baileylaw04.SymsNil', WHERE WHAT IT READS IS OF BULK AT MOST 1048576: true; the input reads as it did. -/
def symsNilUptoRow : OpenClaim := { program := "ytoccilnobgoncaa", sum := "8b527fe720661fe77926e03f0e2edce4e2de7da96eda5b1e2de87f9f753746ce", func := "bailey/baileylaw04.SymsNil", spec := "symsNil", apart := false, narrowed := true }
def SymsNilUptoSaid : Prop := symsNilUptoRow.holds Try.pinned (OpenSpec.upto symsNilSpec)

/-- 'baileylaw04.SymsPlays', WHERE WHAT IT READS IS OF BULK AT MOST 1048576: true; the input reads as it did. -/
def symsPlaysUptoRow : OpenClaim := { program := "ytoccilnobgoncaa", sum := "8b527fe720661fe77926e03f0e2edce4e2de7da96eda5b1e2de87f9f753746ce", func := "bailey/baileylaw04.SymsPlays", spec := "symsPlays", apart := false, narrowed := true }
def SymsPlaysUptoSaid : Prop := symsPlaysUptoRow.holds Try.pinned (OpenSpec.upto symsPlaysSpec)

/-- 'baileylaw04.SymsStay', WHERE WHAT IT READS IS OF BULK AT MOST 1048576: true; the input reads as it did. -/
def symsStayUptoRow : OpenClaim := { program := "ytoccilnobgoncaa", sum := "8b527fe720661fe77926e03f0e2edce4e2de7da96eda5b1e2de87f9f753746ce", func := "bailey/baileylaw04.SymsStay", spec := "symsStay", apart := false, narrowed := true }
def SymsStayUptoSaid : Prop := symsStayUptoRow.holds Try.pinned (OpenSpec.upto symsStaySpec)

/-- 'baileylaw04.SymsOrder', WHERE WHAT IT READS IS OF BULK AT MOST 1048576: true; the input reads as it did. -/
def symsOrderUptoRow : OpenClaim := { program := "ytoccilnobgoncaa", sum := "8b527fe720661fe77926e03f0e2edce4e2de7da96eda5b1e2de87f9f753746ce", func := "bailey/baileylaw04.SymsOrder", spec := "symsOrder", apart := false, narrowed := true }
def SymsOrderUptoSaid : Prop := symsOrderUptoRow.holds Try.pinned (OpenSpec.upto symsOrderSpec)

/-- 'baileylaw01.OctetVars', WHERE WHAT IT READS IS OF BULK AT MOST 1048576: true; the input reads as it did. -/
def octetVarsUptoRow : OpenClaim := { program := "ytoccilnobgoncaa", sum := "8b527fe720661fe77926e03f0e2edce4e2de7da96eda5b1e2de87f9f753746ce", func := "bailey/baileylaw01.OctetVars", spec := "octetVars", unfollowed := true, recurses := true, apart := false, narrowed := true }
def OctetVarsUptoSaid : Prop := octetVarsUptoRow.holds Try.pinned (OpenSpec.upto octetVarsSpec)

/-- 'baileylaw01.OctetShort', WHERE WHAT IT READS IS OF BULK AT MOST 1048576: true; the input reads as it did. -/
def octetShortUptoRow : OpenClaim := { program := "ytoccilnobgoncaa", sum := "8b527fe720661fe77926e03f0e2edce4e2de7da96eda5b1e2de87f9f753746ce", func := "bailey/baileylaw01.OctetShort", spec := "octetShort", unfollowed := true, recurses := true, apart := false, narrowed := true }
def OctetShortUptoSaid : Prop := octetShortUptoRow.holds Try.pinned (OpenSpec.upto octetShortSpec)

/-- 'baileylaw01.OctetStrings', WHERE WHAT IT READS IS OF BULK AT MOST 1048576: true; the input reads as it did. -/
def octetStringsUptoRow : OpenClaim := { program := "ytoccilnobgoncaa", sum := "8b527fe720661fe77926e03f0e2edce4e2de7da96eda5b1e2de87f9f753746ce", func := "bailey/baileylaw01.OctetStrings", spec := "octetStrings", unfollowed := true, recurses := true, apart := false, narrowed := true }
def OctetStringsUptoSaid : Prop := octetStringsUptoRow.holds Try.pinned (OpenSpec.upto octetStringsSpec)

/-- 'baileylaw01.OctetRows', WHERE WHAT IT READS IS OF BULK AT MOST 1048576: true; the input reads as it did. -/
def octetRowsUptoRow : OpenClaim := { program := "ytoccilnobgoncaa", sum := "8b527fe720661fe77926e03f0e2edce4e2de7da96eda5b1e2de87f9f753746ce", func := "bailey/baileylaw01.OctetRows", spec := "octetRows", unfollowed := true, recurses := true, apart := false, narrowed := true }
def OctetRowsUptoSaid : Prop := octetRowsUptoRow.holds Try.pinned (OpenSpec.upto octetRowsSpec)

/-- 'baileylaw01.OctetBack', WHERE WHAT IT READS IS OF BULK AT MOST 1048576: true; the input reads as it did. -/
def octetBackUptoRow : OpenClaim := { program := "ytoccilnobgoncaa", sum := "8b527fe720661fe77926e03f0e2edce4e2de7da96eda5b1e2de87f9f753746ce", func := "bailey/baileylaw01.OctetBack", spec := "octetBack", unfollowed := true, recurses := true, apart := false, narrowed := true }
def OctetBackUptoSaid : Prop := octetBackUptoRow.holds Try.pinned (OpenSpec.upto octetBackSpec)

end Rows
end Go.Proofs.Ytoccilnobgoncaa
