/-
  No cell of these rows narrows 'for every input' (looked for: loops, veiled, ifaces, maps, wideKeys, modest, calm, conditions, laid).
  DERIVED. THE GIVEN ROWS OF THIS SEAT. 4 by the template 'for every input the law returns true; each argument reads behind the call as it read before'; 0 by the template 'total and deterministic' (their statements: YthbcfamfaicneaaTotals.lean).
  GIVEN WITH THE SEED: the statements are not yours to turn. If you find one false, say at which input.
  Laid BY PROGRAM, IN A SANDBOX (cutbox-rows.mjs): the forced cells as the released guide's own fill.sh prints them over the translation 9904d6404a10478a… (all of the seat's roots in one cut). By AI agents, Wed Nov 11 2026. No macro, syntax, notation, axiom, sorry.
-/
import Derived.Test.YthbcfamfaicneaaChecked
import GoSem.Claim
import GoSem.ClaimJoined
import GoSem.ClaimMapViews
import Derived.JoinedTies
import Derived.KernelRfl
namespace Go.Proofs.Ythbcfamfaicneaa
/- THE CELL 'sum', in the pinned program and in every row, IS THE sha256 OF THE DUMP (.gsa) THAT YthbcfamfaicneaaProg.lean LOADS. Nothing in Lean hashes anything: it is a label: what it is worth is what the hold of that sum in a sandbox is worth. -/
noncomputable def Try.pinned : Pinned := { name := "ythbcfamfaicneaa", sum := "9904d6404a10478a0f8341f27be8ed55d9e0c6efdc30b270fe2deb7fea54db8d", checked := Try.checked }
namespace Rows
def none {H : Type} : Left H := { results := [], args := [] }

/-- 'baileylaw21.SaysDeeper': WHATEVER THE INPUT: true; the input reads as it did. -/
def saysDeeperSpec : ChangeSpec := { name := "saysDeeper", fn := fun _ => fun
  | [d1, d2] => { results := [.lit (.bool true)], args := [d1, d2] }
  | _ => none }
def saysDeeperRow : OpenClaim := { program := "ythbcfamfaicneaa", sum := "9904d6404a10478a0f8341f27be8ed55d9e0c6efdc30b270fe2deb7fea54db8d", func := "bailey/baileylaw21.SaysDeeper", spec := "saysDeeper", unfollowed := true, recurses := true, plainKeys := false, apart := false }
def SaysDeeperSaid : Prop := saysDeeperRow.holds Try.pinned (OpenSpec.ofChange saysDeeperSpec)

/-- ITS FALSE NEIGHBOUR: 'it returns false'. Refute it at one input. -/
def saysDeeperWrong : ChangeSpec := { name := "saysDeeper", fn := fun _ => fun
  | [d1, d2] => { results := [.lit (.bool false)], args := [d1, d2] }
  | _ => none }
def SaysDeeperWrongFalsely : Prop := saysDeeperRow.holds Try.pinned (OpenSpec.ofChange saysDeeperWrong)

/-- 'baileylaw21.SaysChain': WHATEVER THE INPUT: true; the input reads as it did. -/
def saysChainSpec : ChangeSpec := { name := "saysChain", fn := fun _ => fun
  | [d] => { results := [.lit (.bool true)], args := [d] }
  | _ => none }
def saysChainRow : OpenClaim := { program := "ythbcfamfaicneaa", sum := "9904d6404a10478a0f8341f27be8ed55d9e0c6efdc30b270fe2deb7fea54db8d", func := "bailey/baileylaw21.SaysChain", spec := "saysChain", unfollowed := true, recurses := true, plainKeys := false, apart := false }
def SaysChainSaid : Prop := saysChainRow.holds Try.pinned (OpenSpec.ofChange saysChainSpec)

/-- ITS FALSE NEIGHBOUR: 'it returns false'. Refute it at one input. -/
def saysChainWrong : ChangeSpec := { name := "saysChain", fn := fun _ => fun
  | [d] => { results := [.lit (.bool false)], args := [d] }
  | _ => none }
def SaysChainWrongFalsely : Prop := saysChainRow.holds Try.pinned (OpenSpec.ofChange saysChainWrong)

/-- 'baileylaw32.ReachPlays': WHATEVER THE INPUT: true; the input reads as it did. -/
def reachPlaysSpec : ChangeSpec := { name := "reachPlays", fn := fun _ => fun
  | [d1, d2, d3, d4, d5] => { results := [.lit (.bool true)], args := [d1, d2, d3, d4, d5] }
  | _ => none }
def reachPlaysRow : OpenClaim := { program := "ythbcfamfaicneaa", sum := "9904d6404a10478a0f8341f27be8ed55d9e0c6efdc30b270fe2deb7fea54db8d", func := "bailey/baileylaw32.ReachPlays", spec := "reachPlays", unfollowed := true, recurses := true, plainKeys := false, apart := false }
def ReachPlaysSaid : Prop := reachPlaysRow.holds Try.pinned (OpenSpec.ofChange reachPlaysSpec)

/-- ITS FALSE NEIGHBOUR: 'it returns false'. Refute it at one input. -/
def reachPlaysWrong : ChangeSpec := { name := "reachPlays", fn := fun _ => fun
  | [d1, d2, d3, d4, d5] => { results := [.lit (.bool false)], args := [d1, d2, d3, d4, d5] }
  | _ => none }
def ReachPlaysWrongFalsely : Prop := reachPlaysRow.holds Try.pinned (OpenSpec.ofChange reachPlaysWrong)

/-- 'baileylaw32.ReachMore': WHATEVER THE INPUT: true; the input reads as it did. -/
def reachMoreSpec : ChangeSpec := { name := "reachMore", fn := fun _ => fun
  | [d1, d2, d3, d4, d5] => { results := [.lit (.bool true)], args := [d1, d2, d3, d4, d5] }
  | _ => none }
def reachMoreRow : OpenClaim := { program := "ythbcfamfaicneaa", sum := "9904d6404a10478a0f8341f27be8ed55d9e0c6efdc30b270fe2deb7fea54db8d", func := "bailey/baileylaw32.ReachMore", spec := "reachMore", unfollowed := true, recurses := true, plainKeys := false, apart := false }
def ReachMoreSaid : Prop := reachMoreRow.holds Try.pinned (OpenSpec.ofChange reachMoreSpec)

/-- ITS FALSE NEIGHBOUR: 'it returns false'. Refute it at one input. -/
def reachMoreWrong : ChangeSpec := { name := "reachMore", fn := fun _ => fun
  | [d1, d2, d3, d4, d5] => { results := [.lit (.bool false)], args := [d1, d2, d3, d4, d5] }
  | _ => none }
def ReachMoreWrongFalsely : Prop := reachMoreRow.holds Try.pinned (OpenSpec.ofChange reachMoreWrong)

/- THE SECOND FORM. 'bulk': how many values and letters a reading holds, each counted each time it is reached (what is shared counts as often as it is met; a slice's spare places count too). A statement '..UptoSaid' is the law's where the arguments, and the package variables that the reading takes, are together of bulk at most 1048576: NARROWER than '..Said'. Prove '..Said' where nothing that the law and all that it calls make is longer than what came in: it says more and counts as full. Else prove '..UptoSaid'. A law counts once. -/
mutual
def uptoBulk {H : Type} : DataW H → Nat
  | .lit (.string bytes) => bytes.length + 1
  | .lit _ => 1
  | .nil => 1
  | .ptr d => uptoBulk d + 1
  | .slice elems spare => uptoBulkAll elems + uptoBulkAll spare + 1
  | .agg parts => uptoBulkAll parts + 1
  | .iface _ d => uptoBulk d + 1
  | .map entries => uptoBulkEntries entries + 1
  | .held _ => 1
def uptoBulkAll {H : Type} : List (DataW H) → Nat
  | [] => 0
  | d :: r => uptoBulk d + uptoBulkAll r
def uptoBulkEntries {H : Type} : List (Lit × DataW H) → Nat
  | [] => 0
  | x :: r => uptoBulkEntry x + uptoBulkEntries r
def uptoBulkEntry {H : Type} : Lit × DataW H → Nat
  | (.string bytes, d) => bytes.length + uptoBulk d + 1
  | (_, d) => uptoBulk d + 1
 end
def uptoSmall : (H : Type) → List (DataW H) → Bool := fun _ ds => decide (uptoBulkAll ds ≤ 1048576)
def OpenSpec.upto (s : _root_.Go.ChangeSpec) : _root_.Go.OpenSpec := { _root_.Go.OpenSpec.ofChange s with cond := some uptoSmall }

/-- 'baileylaw21.SaysDeeper', WHERE WHAT IT READS IS OF BULK AT MOST 1048576: true; the input reads as it did. -/
def saysDeeperUptoRow : OpenClaim := { program := "ythbcfamfaicneaa", sum := "9904d6404a10478a0f8341f27be8ed55d9e0c6efdc30b270fe2deb7fea54db8d", func := "bailey/baileylaw21.SaysDeeper", spec := "saysDeeper", unfollowed := true, recurses := true, plainKeys := false, apart := false, narrowed := true }
def SaysDeeperUptoSaid : Prop := saysDeeperUptoRow.holds Try.pinned (OpenSpec.upto saysDeeperSpec)

/-- 'baileylaw21.SaysChain', WHERE WHAT IT READS IS OF BULK AT MOST 1048576: true; the input reads as it did. -/
def saysChainUptoRow : OpenClaim := { program := "ythbcfamfaicneaa", sum := "9904d6404a10478a0f8341f27be8ed55d9e0c6efdc30b270fe2deb7fea54db8d", func := "bailey/baileylaw21.SaysChain", spec := "saysChain", unfollowed := true, recurses := true, plainKeys := false, apart := false, narrowed := true }
def SaysChainUptoSaid : Prop := saysChainUptoRow.holds Try.pinned (OpenSpec.upto saysChainSpec)

/-- 'baileylaw32.ReachPlays', WHERE WHAT IT READS IS OF BULK AT MOST 1048576: true; the input reads as it did. -/
def reachPlaysUptoRow : OpenClaim := { program := "ythbcfamfaicneaa", sum := "9904d6404a10478a0f8341f27be8ed55d9e0c6efdc30b270fe2deb7fea54db8d", func := "bailey/baileylaw32.ReachPlays", spec := "reachPlays", unfollowed := true, recurses := true, plainKeys := false, apart := false, narrowed := true }
def ReachPlaysUptoSaid : Prop := reachPlaysUptoRow.holds Try.pinned (OpenSpec.upto reachPlaysSpec)

/-- 'baileylaw32.ReachMore', WHERE WHAT IT READS IS OF BULK AT MOST 1048576: true; the input reads as it did. -/
def reachMoreUptoRow : OpenClaim := { program := "ythbcfamfaicneaa", sum := "9904d6404a10478a0f8341f27be8ed55d9e0c6efdc30b270fe2deb7fea54db8d", func := "bailey/baileylaw32.ReachMore", spec := "reachMore", unfollowed := true, recurses := true, plainKeys := false, apart := false, narrowed := true }
def ReachMoreUptoSaid : Prop := reachMoreUptoRow.holds Try.pinned (OpenSpec.upto reachMoreSpec)

end Rows
end Go.Proofs.Ythbcfamfaicneaa
