/-
  No cell of these rows narrows 'for every input' (looked for: loops, veiled, ifaces, maps, wideKeys, modest, calm, conditions, laid).
  DERIVED. THE GIVEN ROWS OF THIS SEAT. 7 by the template 'for every input the law returns true; each argument reads behind the call as it read before'; 0 by the template 'total and deterministic' (their statements: YthbcfamfaicneaaGreatTotals.lean).
  GIVEN WITH THE SEED: the statements are not yours to turn. If you find one false, say at which input.
  Laid BY PROGRAM, IN A SANDBOX (cutbox-rows.mjs): the forced cells as the released guide's own fill.sh prints them over the translation 3e650df06776bf1e… (all of the seat's roots in one cut). By AI agents, Wed Nov 11 2026. No macro, syntax, notation, axiom, sorry.
-/
import Derived.Test.YthbcfamfaicneaaGreatChecked
import GoSem.Claim
import GoSem.ClaimJoined
import GoSem.ClaimMapViews
import Derived.JoinedTies
import Derived.KernelRfl
namespace Go.Proofs.YthbcfamfaicneaaGreat
/- THE CELL 'sum', in the pinned program and in every row, IS THE sha256 OF THE DUMP (.gsa) THAT YthbcfamfaicneaaGreatProg.lean LOADS. Nothing in Lean hashes anything: it is a label: what it is worth is what the hold of that sum in a sandbox is worth. -/
noncomputable def Tryz.pinned : Pinned := { name := "ythbcfamfaicneaagreat", sum := "3e650df06776bf1eeb7a92182ee53cba002a0dbefd1ce8e0f5f3e8837655d9fe", checked := Tryz.checked }
namespace Rows
def none {H : Type} : Left H := { results := [], args := [] }

/-- 'baileylaw32.ReachSays': WHATEVER THE INPUT: true; the input reads as it did. -/
def reachSaysSpec : ChangeSpec := { name := "reachSays", fn := fun _ => fun
  | [d1, d2, d3, d4, d5] => { results := [.lit (.bool true)], args := [d1, d2, d3, d4, d5] }
  | _ => none }
def reachSaysRow : OpenClaim := { program := "ythbcfamfaicneaagreat", sum := "3e650df06776bf1eeb7a92182ee53cba002a0dbefd1ce8e0f5f3e8837655d9fe", func := "bailey/baileylaw32.ReachSays", spec := "reachSays", unfollowed := true, recurses := true, plainKeys := false, apart := false }
def ReachSaysSaid : Prop := reachSaysRow.holds Tryz.pinned (OpenSpec.ofChange reachSaysSpec)

/-- ITS FALSE NEIGHBOUR: 'it returns false'. Refute it at one input. -/
def reachSaysWrong : ChangeSpec := { name := "reachSays", fn := fun _ => fun
  | [d1, d2, d3, d4, d5] => { results := [.lit (.bool false)], args := [d1, d2, d3, d4, d5] }
  | _ => none }
def ReachSaysWrongFalsely : Prop := reachSaysRow.holds Tryz.pinned (OpenSpec.ofChange reachSaysWrong)

/-- 'baileylaw31.LintPlays': WHATEVER THE INPUT: true; the input reads as it did. -/
def lintPlaysSpec : ChangeSpec := { name := "lintPlays", fn := fun _ => fun
  | [d1, d2, d3, d4, d5] => { results := [.lit (.bool true)], args := [d1, d2, d3, d4, d5] }
  | _ => none }
def lintPlaysRow : OpenClaim := { program := "ythbcfamfaicneaagreat", sum := "3e650df06776bf1eeb7a92182ee53cba002a0dbefd1ce8e0f5f3e8837655d9fe", func := "bailey/baileylaw31.LintPlays", spec := "lintPlays", inPlace := ["slices.overlaps[int]"], unfollowed := true, recurses := true, plainKeys := false, apart := false }
def LintPlaysSaid : Prop := lintPlaysRow.holds Tryz.pinned (OpenSpec.ofChange lintPlaysSpec)

/-- ITS FALSE NEIGHBOUR: 'it returns false'. Refute it at one input. -/
def lintPlaysWrong : ChangeSpec := { name := "lintPlays", fn := fun _ => fun
  | [d1, d2, d3, d4, d5] => { results := [.lit (.bool false)], args := [d1, d2, d3, d4, d5] }
  | _ => none }
def LintPlaysWrongFalsely : Prop := lintPlaysRow.holds Tryz.pinned (OpenSpec.ofChange lintPlaysWrong)

/-- 'baileylaw31.LintSpares': WHATEVER THE INPUT: true; the input reads as it did. -/
def lintSparesSpec : ChangeSpec := { name := "lintSpares", fn := fun _ => fun
  | [d1, d2, d3] => { results := [.lit (.bool true)], args := [d1, d2, d3] }
  | _ => none }
def lintSparesRow : OpenClaim := { program := "ythbcfamfaicneaagreat", sum := "3e650df06776bf1eeb7a92182ee53cba002a0dbefd1ce8e0f5f3e8837655d9fe", func := "bailey/baileylaw31.LintSpares", spec := "lintSpares", inPlace := ["slices.overlaps[int]"], unfollowed := true, recurses := true, plainKeys := false, apart := false }
def LintSparesSaid : Prop := lintSparesRow.holds Tryz.pinned (OpenSpec.ofChange lintSparesSpec)

/-- ITS FALSE NEIGHBOUR: 'it returns false'. Refute it at one input. -/
def lintSparesWrong : ChangeSpec := { name := "lintSpares", fn := fun _ => fun
  | [d1, d2, d3] => { results := [.lit (.bool false)], args := [d1, d2, d3] }
  | _ => none }
def LintSparesWrongFalsely : Prop := lintSparesRow.holds Tryz.pinned (OpenSpec.ofChange lintSparesWrong)

/-- 'baileylaw31.LintMore': WHATEVER THE INPUT: true; the input reads as it did. -/
def lintMoreSpec : ChangeSpec := { name := "lintMore", fn := fun _ => fun
  | [d1, d2, d3] => { results := [.lit (.bool true)], args := [d1, d2, d3] }
  | _ => none }
def lintMoreRow : OpenClaim := { program := "ythbcfamfaicneaagreat", sum := "3e650df06776bf1eeb7a92182ee53cba002a0dbefd1ce8e0f5f3e8837655d9fe", func := "bailey/baileylaw31.LintMore", spec := "lintMore", inPlace := ["slices.overlaps[int]"], unfollowed := true, recurses := true, plainKeys := false, apart := false }
def LintMoreSaid : Prop := lintMoreRow.holds Tryz.pinned (OpenSpec.ofChange lintMoreSpec)

/-- ITS FALSE NEIGHBOUR: 'it returns false'. Refute it at one input. -/
def lintMoreWrong : ChangeSpec := { name := "lintMore", fn := fun _ => fun
  | [d1, d2, d3] => { results := [.lit (.bool false)], args := [d1, d2, d3] }
  | _ => none }
def LintMoreWrongFalsely : Prop := lintMoreRow.holds Tryz.pinned (OpenSpec.ofChange lintMoreWrong)

/-- 'baileylaw22.PolicyPlays': WHATEVER THE INPUT: true; the input reads as it did. -/
def policyPlaysSpec : ChangeSpec := { name := "policyPlays", fn := fun _ => fun
  | [d1, d2] => { results := [.lit (.bool true)], args := [d1, d2] }
  | _ => none }
def policyPlaysRow : OpenClaim := { program := "ythbcfamfaicneaagreat", sum := "3e650df06776bf1eeb7a92182ee53cba002a0dbefd1ce8e0f5f3e8837655d9fe", func := "bailey/baileylaw22.PolicyPlays", spec := "policyPlays", inPlace := ["slices.overlaps[int]"], unfollowed := true, recurses := true, plainKeys := false, apart := false }
def PolicyPlaysSaid : Prop := policyPlaysRow.holds Tryz.pinned (OpenSpec.ofChange policyPlaysSpec)

/-- ITS FALSE NEIGHBOUR: 'it returns false'. Refute it at one input. -/
def policyPlaysWrong : ChangeSpec := { name := "policyPlays", fn := fun _ => fun
  | [d1, d2] => { results := [.lit (.bool false)], args := [d1, d2] }
  | _ => none }
def PolicyPlaysWrongFalsely : Prop := policyPlaysRow.holds Tryz.pinned (OpenSpec.ofChange policyPlaysWrong)

/-- 'baileylaw22.PolicyHolds': WHATEVER THE INPUT: true; the input reads as it did. -/
def policyHoldsSpec : ChangeSpec := { name := "policyHolds", fn := fun _ => fun
  | [d1, d2] => { results := [.lit (.bool true)], args := [d1, d2] }
  | _ => none }
def policyHoldsRow : OpenClaim := { program := "ythbcfamfaicneaagreat", sum := "3e650df06776bf1eeb7a92182ee53cba002a0dbefd1ce8e0f5f3e8837655d9fe", func := "bailey/baileylaw22.PolicyHolds", spec := "policyHolds", inPlace := ["slices.overlaps[int]"], unfollowed := true, recurses := true, plainKeys := false, apart := false }
def PolicyHoldsSaid : Prop := policyHoldsRow.holds Tryz.pinned (OpenSpec.ofChange policyHoldsSpec)

/-- ITS FALSE NEIGHBOUR: 'it returns false'. Refute it at one input. -/
def policyHoldsWrong : ChangeSpec := { name := "policyHolds", fn := fun _ => fun
  | [d1, d2] => { results := [.lit (.bool false)], args := [d1, d2] }
  | _ => none }
def PolicyHoldsWrongFalsely : Prop := policyHoldsRow.holds Tryz.pinned (OpenSpec.ofChange policyHoldsWrong)

/-- 'baileylaw22.PolicyParts': WHATEVER THE INPUT: true; the input reads as it did. -/
def policyPartsSpec : ChangeSpec := { name := "policyParts", fn := fun _ => fun
  | [d1, d2] => { results := [.lit (.bool true)], args := [d1, d2] }
  | _ => none }
def policyPartsRow : OpenClaim := { program := "ythbcfamfaicneaagreat", sum := "3e650df06776bf1eeb7a92182ee53cba002a0dbefd1ce8e0f5f3e8837655d9fe", func := "bailey/baileylaw22.PolicyParts", spec := "policyParts", inPlace := ["slices.overlaps[int]"], unfollowed := true, recurses := true, plainKeys := false, apart := false }
def PolicyPartsSaid : Prop := policyPartsRow.holds Tryz.pinned (OpenSpec.ofChange policyPartsSpec)

/-- ITS FALSE NEIGHBOUR: 'it returns false'. Refute it at one input. -/
def policyPartsWrong : ChangeSpec := { name := "policyParts", fn := fun _ => fun
  | [d1, d2] => { results := [.lit (.bool false)], args := [d1, d2] }
  | _ => none }
def PolicyPartsWrongFalsely : Prop := policyPartsRow.holds Tryz.pinned (OpenSpec.ofChange policyPartsWrong)

/- THE SECOND FORM. 'bulk': how many values and letters a reading holds, each counted each time it is reached (what is shared counts as often as it is met; a slice's spare places count too). A statement '..UptoSaid' is the law's where the arguments, and the package variables that the reading takes, are together of bulk at most 1048576: NARROWER than '..Said'. Prove '..Said' where nothing that the law and all that it calls make is longer than what came in: it says more and counts as full. Else prove '..UptoSaid'. A law counts once. -/
mutual
def uptoBulk {H : Type} : DataW H → Nat
  | .lit (.string bytes) => bytes.length + 1
  | .lit _ => 1
  | .nil => 1
  | .ptr d => uptoBulk d + 1
  | .slice elems spare => uptoBulkAll elems + uptoBulkAll spare + 1
  | .agg parts => uptoBulkAll parts + 1
  | .iface _ d => uptoBulk d + 1
  | .map entries => uptoBulkEntries entries + 1
  | .held _ => 1
def uptoBulkAll {H : Type} : List (DataW H) → Nat
  | [] => 0
  | d :: r => uptoBulk d + uptoBulkAll r
def uptoBulkEntries {H : Type} : List (Lit × DataW H) → Nat
  | [] => 0
  | x :: r => uptoBulkEntry x + uptoBulkEntries r
def uptoBulkEntry {H : Type} : Lit × DataW H → Nat
  | (.string bytes, d) => bytes.length + uptoBulk d + 1
  | (_, d) => uptoBulk d + 1
 end
def uptoSmall : (H : Type) → List (DataW H) → Bool := fun _ ds => decide (uptoBulkAll ds ≤ 1048576)
def OpenSpec.upto (s : _root_.Go.ChangeSpec) : _root_.Go.OpenSpec := { _root_.Go.OpenSpec.ofChange s with cond := some uptoSmall }

/-- 'baileylaw32.ReachSays', WHERE WHAT IT READS IS OF BULK AT MOST 1048576: true; the input reads as it did. -/
def reachSaysUptoRow : OpenClaim := { program := "ythbcfamfaicneaagreat", sum := "3e650df06776bf1eeb7a92182ee53cba002a0dbefd1ce8e0f5f3e8837655d9fe", func := "bailey/baileylaw32.ReachSays", spec := "reachSays", unfollowed := true, recurses := true, plainKeys := false, apart := false, narrowed := true }
def ReachSaysUptoSaid : Prop := reachSaysUptoRow.holds Tryz.pinned (OpenSpec.upto reachSaysSpec)

/-- 'baileylaw31.LintPlays', WHERE WHAT IT READS IS OF BULK AT MOST 1048576: true; the input reads as it did. -/
def lintPlaysUptoRow : OpenClaim := { program := "ythbcfamfaicneaagreat", sum := "3e650df06776bf1eeb7a92182ee53cba002a0dbefd1ce8e0f5f3e8837655d9fe", func := "bailey/baileylaw31.LintPlays", spec := "lintPlays", inPlace := ["slices.overlaps[int]"], unfollowed := true, recurses := true, plainKeys := false, apart := false, narrowed := true }
def LintPlaysUptoSaid : Prop := lintPlaysUptoRow.holds Tryz.pinned (OpenSpec.upto lintPlaysSpec)

/-- 'baileylaw31.LintSpares', WHERE WHAT IT READS IS OF BULK AT MOST 1048576: true; the input reads as it did. -/
def lintSparesUptoRow : OpenClaim := { program := "ythbcfamfaicneaagreat", sum := "3e650df06776bf1eeb7a92182ee53cba002a0dbefd1ce8e0f5f3e8837655d9fe", func := "bailey/baileylaw31.LintSpares", spec := "lintSpares", inPlace := ["slices.overlaps[int]"], unfollowed := true, recurses := true, plainKeys := false, apart := false, narrowed := true }
def LintSparesUptoSaid : Prop := lintSparesUptoRow.holds Tryz.pinned (OpenSpec.upto lintSparesSpec)

/-- 'baileylaw31.LintMore', WHERE WHAT IT READS IS OF BULK AT MOST 1048576: true; the input reads as it did. -/
def lintMoreUptoRow : OpenClaim := { program := "ythbcfamfaicneaagreat", sum := "3e650df06776bf1eeb7a92182ee53cba002a0dbefd1ce8e0f5f3e8837655d9fe", func := "bailey/baileylaw31.LintMore", spec := "lintMore", inPlace := ["slices.overlaps[int]"], unfollowed := true, recurses := true, plainKeys := false, apart := false, narrowed := true }
def LintMoreUptoSaid : Prop := lintMoreUptoRow.holds Tryz.pinned (OpenSpec.upto lintMoreSpec)

/-- 'baileylaw22.PolicyPlays', WHERE WHAT IT READS IS OF BULK AT MOST 1048576: true; the input reads as it did. -/
def policyPlaysUptoRow : OpenClaim := { program := "ythbcfamfaicneaagreat", sum := "3e650df06776bf1eeb7a92182ee53cba002a0dbefd1ce8e0f5f3e8837655d9fe", func := "bailey/baileylaw22.PolicyPlays", spec := "policyPlays", inPlace := ["slices.overlaps[int]"], unfollowed := true, recurses := true, plainKeys := false, apart := false, narrowed := true }
def PolicyPlaysUptoSaid : Prop := policyPlaysUptoRow.holds Tryz.pinned (OpenSpec.upto policyPlaysSpec)

/-- 'baileylaw22.PolicyHolds', WHERE WHAT IT READS IS OF BULK AT MOST 1048576: true; the input reads as it did. -/
def policyHoldsUptoRow : OpenClaim := { program := "ythbcfamfaicneaagreat", sum := "3e650df06776bf1eeb7a92182ee53cba002a0dbefd1ce8e0f5f3e8837655d9fe", func := "bailey/baileylaw22.PolicyHolds", spec := "policyHolds", inPlace := ["slices.overlaps[int]"], unfollowed := true, recurses := true, plainKeys := false, apart := false, narrowed := true }
def PolicyHoldsUptoSaid : Prop := policyHoldsUptoRow.holds Tryz.pinned (OpenSpec.upto policyHoldsSpec)

/-- 'baileylaw22.PolicyParts', WHERE WHAT IT READS IS OF BULK AT MOST 1048576: true; the input reads as it did. -/
def policyPartsUptoRow : OpenClaim := { program := "ythbcfamfaicneaagreat", sum := "3e650df06776bf1eeb7a92182ee53cba002a0dbefd1ce8e0f5f3e8837655d9fe", func := "bailey/baileylaw22.PolicyParts", spec := "policyParts", inPlace := ["slices.overlaps[int]"], unfollowed := true, recurses := true, plainKeys := false, apart := false, narrowed := true }
def PolicyPartsUptoSaid : Prop := policyPartsUptoRow.holds Tryz.pinned (OpenSpec.upto policyPartsSpec)

end Rows
end Go.Proofs.YthbcfamfaicneaaGreat
