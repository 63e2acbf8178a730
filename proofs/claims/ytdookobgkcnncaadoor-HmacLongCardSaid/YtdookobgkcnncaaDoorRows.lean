/-
  NARROWER THAN 'FOR EVERY INPUT', by the rows' own cells (each row's printed sentence says how): ShaSums: laid · ShaParts: laid · ShaForks: laid · ShaLengths: laid · HmacTags: laid · HmacKeys: laid · HmacLong: laid.
  DERIVED. THE GIVEN ROWS OF THIS SEAT. 7 by the template 'for every input the law returns true; each argument reads behind the call as it read before'; 0 by the template 'total and deterministic' (their statements: YtdookobgkcnncaaDoorTotals.lean).
  GIVEN WITH THE SEED: the statements are not yours to turn. If you find one false, say at which input.
  Laid BY PROGRAM, IN A SANDBOX (cutbox-rows.mjs): the forced cells as the released guide's own fill.sh prints them over the translation e5aee384c695f41d… (all of the seat's roots in one cut). By AI agents, Wed Nov 11 2026. No macro, syntax, notation, axiom, sorry.
-/
import Derived.Test.YtdookobgkcnncaaDoorChecked
import GoSem.Claim
import GoSem.ClaimJoined
import GoSem.ClaimMapViews
import Derived.JoinedTies
import Derived.KernelRfl
namespace Go.Proofs.YtdookobgkcnncaaDoor
/- THE CELL 'sum', in the pinned program and in every row, IS THE sha256 OF THE DUMP (.gsa) THAT YtdookobgkcnncaaDoorProg.lean LOADS. Nothing in Lean hashes anything: it is a label: what it is worth is what the hold of that sum in a sandbox is worth. -/
noncomputable def Tryd.pinned : Pinned := { name := "ytdookobgkcnncaadoor", sum := "e5aee384c695f41d6a711db4c4b59a34cfac5c4c8852552cfc278d2e72e352a7", checked := Tryd.checked }
namespace Rows
def none {H : Type} : Left H := { results := [], args := [] }

/- WHAT THE LISTED PACKAGE-LEVEL VARIABLES READ AS WHEN THE CALL BEGINS. Each datum BY PROGRAM (the guide's laid-datum.mjs) off the statement by which the dump's own 'gosem.cut.vars' lays the variable. In a bare row this is a premise. The card (YtdookobgkcnncaaDoorCards.lean) ties it to the program's text. -/
def laid_bailey_sha_constants {H : Type} : DataW H := .agg [.lit (.int .u32 1116352408), .lit (.int .u32 1899447441), .lit (.int .u32 3049323471), .lit (.int .u32 3921009573), .lit (.int .u32 961987163), .lit (.int .u32 1508970993), .lit (.int .u32 2453635748), .lit (.int .u32 2870763221), .lit (.int .u32 3624381080), .lit (.int .u32 310598401), .lit (.int .u32 607225278), .lit (.int .u32 1426881987), .lit (.int .u32 1925078388), .lit (.int .u32 2162078206), .lit (.int .u32 2614888103), .lit (.int .u32 3248222580), .lit (.int .u32 3835390401), .lit (.int .u32 4022224774), .lit (.int .u32 264347078), .lit (.int .u32 604807628), .lit (.int .u32 770255983), .lit (.int .u32 1249150122), .lit (.int .u32 1555081692), .lit (.int .u32 1996064986), .lit (.int .u32 2554220882), .lit (.int .u32 2821834349), .lit (.int .u32 2952996808), .lit (.int .u32 3210313671), .lit (.int .u32 3336571891), .lit (.int .u32 3584528711), .lit (.int .u32 113926993), .lit (.int .u32 338241895), .lit (.int .u32 666307205), .lit (.int .u32 773529912), .lit (.int .u32 1294757372), .lit (.int .u32 1396182291), .lit (.int .u32 1695183700), .lit (.int .u32 1986661051), .lit (.int .u32 2177026350), .lit (.int .u32 2456956037), .lit (.int .u32 2730485921), .lit (.int .u32 2820302411), .lit (.int .u32 3259730800), .lit (.int .u32 3345764771), .lit (.int .u32 3516065817), .lit (.int .u32 3600352804), .lit (.int .u32 4094571909), .lit (.int .u32 275423344), .lit (.int .u32 430227734), .lit (.int .u32 506948616), .lit (.int .u32 659060556), .lit (.int .u32 883997877), .lit (.int .u32 958139571), .lit (.int .u32 1322822218), .lit (.int .u32 1537002063), .lit (.int .u32 1747873779), .lit (.int .u32 1955562222), .lit (.int .u32 2024104815), .lit (.int .u32 2227730452), .lit (.int .u32 2361852424), .lit (.int .u32 2428436474), .lit (.int .u32 2756734187), .lit (.int .u32 3204031479), .lit (.int .u32 3329325298)]
def laid_bailey_sha_begin {H : Type} : DataW H := .agg [.lit (.int .u32 1779033703), .lit (.int .u32 3144134277), .lit (.int .u32 1013904242), .lit (.int .u32 2773480762), .lit (.int .u32 1359893119), .lit (.int .u32 2600822924), .lit (.int .u32 528734635), .lit (.int .u32 1541459225)]
def laid_errors_errorType {H : Type} : DataW H := .iface "internal/reflectlite.rtype" (.agg [.ptr (.lit (.string [101, 114, 114, 111, 114]))])

/-- 'baileylaw02.ShaSums': WHATEVER THE INPUT: true; the input reads as it did. -/
def shaSumsSpec : ChangeSpec := { name := "shaSums", fn := fun _ => fun
  | [d] => { results := [.lit (.bool true)], args := [d] }
  | _ => none }
def shaSumsRow : OpenClaim := { program := "ytdookobgkcnncaadoor", sum := "e5aee384c695f41d6a711db4c4b59a34cfac5c4c8852552cfc278d2e72e352a7", func := "bailey/baileylaw02.ShaSums", spec := "shaSums", named := ["bailey/sha.begin", "bailey/sha.constants"], apart := false, laid := [("bailey/sha.constants", laid_bailey_sha_constants), ("bailey/sha.begin", laid_bailey_sha_begin)] }
def ShaSumsSaid : Prop := shaSumsRow.holds Tryd.pinned (OpenSpec.ofChange shaSumsSpec)

/-- ITS FALSE NEIGHBOUR: 'it returns false'. Refute it at one input. -/
def shaSumsWrong : ChangeSpec := { name := "shaSums", fn := fun _ => fun
  | [d] => { results := [.lit (.bool false)], args := [d] }
  | _ => none }
def ShaSumsWrongFalsely : Prop := shaSumsRow.holds Tryd.pinned (OpenSpec.ofChange shaSumsWrong)

/-- 'baileylaw02.ShaParts': WHATEVER THE INPUT: true; the input reads as it did. -/
def shaPartsSpec : ChangeSpec := { name := "shaParts", fn := fun _ => fun
  | [d1, d2] => { results := [.lit (.bool true)], args := [d1, d2] }
  | _ => none }
def shaPartsRow : OpenClaim := { program := "ytdookobgkcnncaadoor", sum := "e5aee384c695f41d6a711db4c4b59a34cfac5c4c8852552cfc278d2e72e352a7", func := "bailey/baileylaw02.ShaParts", spec := "shaParts", named := ["bailey/sha.begin", "bailey/sha.constants"], apart := false, laid := [("bailey/sha.constants", laid_bailey_sha_constants), ("bailey/sha.begin", laid_bailey_sha_begin)] }
def ShaPartsSaid : Prop := shaPartsRow.holds Tryd.pinned (OpenSpec.ofChange shaPartsSpec)

/-- ITS FALSE NEIGHBOUR: 'it returns false'. Refute it at one input. -/
def shaPartsWrong : ChangeSpec := { name := "shaParts", fn := fun _ => fun
  | [d1, d2] => { results := [.lit (.bool false)], args := [d1, d2] }
  | _ => none }
def ShaPartsWrongFalsely : Prop := shaPartsRow.holds Tryd.pinned (OpenSpec.ofChange shaPartsWrong)

/-- 'baileylaw02.ShaForks': WHATEVER THE INPUT: true; the input reads as it did. -/
def shaForksSpec : ChangeSpec := { name := "shaForks", fn := fun _ => fun
  | [d1, d2, d3] => { results := [.lit (.bool true)], args := [d1, d2, d3] }
  | _ => none }
def shaForksRow : OpenClaim := { program := "ytdookobgkcnncaadoor", sum := "e5aee384c695f41d6a711db4c4b59a34cfac5c4c8852552cfc278d2e72e352a7", func := "bailey/baileylaw02.ShaForks", spec := "shaForks", named := ["bailey/sha.begin", "bailey/sha.constants"], apart := false, laid := [("bailey/sha.constants", laid_bailey_sha_constants), ("bailey/sha.begin", laid_bailey_sha_begin)] }
def ShaForksSaid : Prop := shaForksRow.holds Tryd.pinned (OpenSpec.ofChange shaForksSpec)

/-- ITS FALSE NEIGHBOUR: 'it returns false'. Refute it at one input. -/
def shaForksWrong : ChangeSpec := { name := "shaForks", fn := fun _ => fun
  | [d1, d2, d3] => { results := [.lit (.bool false)], args := [d1, d2, d3] }
  | _ => none }
def ShaForksWrongFalsely : Prop := shaForksRow.holds Tryd.pinned (OpenSpec.ofChange shaForksWrong)

/-- 'baileylaw02.ShaLengths': WHATEVER THE INPUT: true; the input reads as it did. -/
def shaLengthsSpec : ChangeSpec := { name := "shaLengths", fn := fun _ => fun
  | [d1, d2] => { results := [.lit (.bool true)], args := [d1, d2] }
  | _ => none }
def shaLengthsRow : OpenClaim := { program := "ytdookobgkcnncaadoor", sum := "e5aee384c695f41d6a711db4c4b59a34cfac5c4c8852552cfc278d2e72e352a7", func := "bailey/baileylaw02.ShaLengths", spec := "shaLengths", named := ["bailey/sha.begin", "bailey/sha.constants"], apart := false, laid := [("bailey/sha.constants", laid_bailey_sha_constants), ("bailey/sha.begin", laid_bailey_sha_begin)] }
def ShaLengthsSaid : Prop := shaLengthsRow.holds Tryd.pinned (OpenSpec.ofChange shaLengthsSpec)

/-- ITS FALSE NEIGHBOUR: 'it returns false'. Refute it at one input. -/
def shaLengthsWrong : ChangeSpec := { name := "shaLengths", fn := fun _ => fun
  | [d1, d2] => { results := [.lit (.bool false)], args := [d1, d2] }
  | _ => none }
def ShaLengthsWrongFalsely : Prop := shaLengthsRow.holds Tryd.pinned (OpenSpec.ofChange shaLengthsWrong)

/-- 'baileylaw03.HmacTags': WHATEVER THE INPUT: true; the input reads as it did. -/
def hmacTagsSpec : ChangeSpec := { name := "hmacTags", fn := fun _ => fun
  | [d1, d2] => { results := [.lit (.bool true)], args := [d1, d2] }
  | _ => none }
def hmacTagsRow : OpenClaim := { program := "ytdookobgkcnncaadoor", sum := "e5aee384c695f41d6a711db4c4b59a34cfac5c4c8852552cfc278d2e72e352a7", func := "bailey/baileylaw03.HmacTags", spec := "hmacTags", inPlace := ["internal/reflectlite.ValueOf", "(internal/reflectlite.Value).Type", "(internal/reflectlite.Value).IsNil", "internal/reflectlite.TypeOf", "(internal/reflectlite.Value).Elem", "(internal/reflectlite.Value).Set"], unfollowed := true, recurses := true, named := ["bailey/sha.begin", "bailey/sha.constants", "errors.errorType"], apart := false, laid := [("errors.errorType", laid_errors_errorType), ("bailey/sha.constants", laid_bailey_sha_constants), ("bailey/sha.begin", laid_bailey_sha_begin)] }
def HmacTagsSaid : Prop := hmacTagsRow.holds Tryd.pinned (OpenSpec.ofChange hmacTagsSpec)

/-- ITS FALSE NEIGHBOUR: 'it returns false'. Refute it at one input. -/
def hmacTagsWrong : ChangeSpec := { name := "hmacTags", fn := fun _ => fun
  | [d1, d2] => { results := [.lit (.bool false)], args := [d1, d2] }
  | _ => none }
def HmacTagsWrongFalsely : Prop := hmacTagsRow.holds Tryd.pinned (OpenSpec.ofChange hmacTagsWrong)

/-- 'baileylaw03.HmacKeys': WHATEVER THE INPUT: true; the input reads as it did. -/
def hmacKeysSpec : ChangeSpec := { name := "hmacKeys", fn := fun _ => fun
  | [d1, d2, d3, d4] => { results := [.lit (.bool true)], args := [d1, d2, d3, d4] }
  | _ => none }
def hmacKeysRow : OpenClaim := { program := "ytdookobgkcnncaadoor", sum := "e5aee384c695f41d6a711db4c4b59a34cfac5c4c8852552cfc278d2e72e352a7", func := "bailey/baileylaw03.HmacKeys", spec := "hmacKeys", inPlace := ["internal/reflectlite.ValueOf", "(internal/reflectlite.Value).Type", "(internal/reflectlite.Value).IsNil", "internal/reflectlite.TypeOf", "(internal/reflectlite.Value).Elem", "(internal/reflectlite.Value).Set"], unfollowed := true, recurses := true, named := ["bailey/sha.begin", "bailey/sha.constants", "errors.errorType"], apart := false, laid := [("errors.errorType", laid_errors_errorType), ("bailey/sha.constants", laid_bailey_sha_constants), ("bailey/sha.begin", laid_bailey_sha_begin)] }
def HmacKeysSaid : Prop := hmacKeysRow.holds Tryd.pinned (OpenSpec.ofChange hmacKeysSpec)

/-- ITS FALSE NEIGHBOUR: 'it returns false'. Refute it at one input. -/
def hmacKeysWrong : ChangeSpec := { name := "hmacKeys", fn := fun _ => fun
  | [d1, d2, d3, d4] => { results := [.lit (.bool false)], args := [d1, d2, d3, d4] }
  | _ => none }
def HmacKeysWrongFalsely : Prop := hmacKeysRow.holds Tryd.pinned (OpenSpec.ofChange hmacKeysWrong)

/-- 'baileylaw03.HmacLong': WHATEVER THE INPUT: true; the input reads as it did. -/
def hmacLongSpec : ChangeSpec := { name := "hmacLong", fn := fun _ => fun
  | [d1, d2] => { results := [.lit (.bool true)], args := [d1, d2] }
  | _ => none }
def hmacLongRow : OpenClaim := { program := "ytdookobgkcnncaadoor", sum := "e5aee384c695f41d6a711db4c4b59a34cfac5c4c8852552cfc278d2e72e352a7", func := "bailey/baileylaw03.HmacLong", spec := "hmacLong", inPlace := ["internal/reflectlite.ValueOf", "(internal/reflectlite.Value).Type", "(internal/reflectlite.Value).IsNil", "internal/reflectlite.TypeOf", "(internal/reflectlite.Value).Elem", "(internal/reflectlite.Value).Set"], unfollowed := true, recurses := true, named := ["bailey/sha.begin", "bailey/sha.constants", "errors.errorType"], apart := false, laid := [("errors.errorType", laid_errors_errorType), ("bailey/sha.constants", laid_bailey_sha_constants), ("bailey/sha.begin", laid_bailey_sha_begin)] }
def HmacLongSaid : Prop := hmacLongRow.holds Tryd.pinned (OpenSpec.ofChange hmacLongSpec)

/-- ITS FALSE NEIGHBOUR: 'it returns false'. Refute it at one input. -/
def hmacLongWrong : ChangeSpec := { name := "hmacLong", fn := fun _ => fun
  | [d1, d2] => { results := [.lit (.bool false)], args := [d1, d2] }
  | _ => none }
def HmacLongWrongFalsely : Prop := hmacLongRow.holds Tryd.pinned (OpenSpec.ofChange hmacLongWrong)

/- THE SECOND FORM. 'bulk': how many values and letters a reading holds, each counted each time it is reached (what is shared counts as often as it is met; a slice's spare places count too). A statement '..UptoSaid' is the law's where the arguments, and the package variables that the reading takes, are together of bulk at most 1048576: NARROWER than '..Said'. Prove '..Said' where nothing that the law and all that it calls make is longer than what came in: it says more and counts as full. Else prove '..UptoSaid'. A law counts once. -/
mutual
def uptoBulk {H : Type} : DataW H → Nat
  | .lit (.string bytes) => bytes.length + 1
  | .lit _ => 1
  | .nil => 1
  | .ptr d => uptoBulk d + 1
  | .slice elems spare => uptoBulkAll elems + uptoBulkAll spare + 1
  | .agg parts => uptoBulkAll parts + 1
  | .iface _ d => uptoBulk d + 1
  | .map entries => uptoBulkEntries entries + 1
  | .held _ => 1
def uptoBulkAll {H : Type} : List (DataW H) → Nat
  | [] => 0
  | d :: r => uptoBulk d + uptoBulkAll r
def uptoBulkEntries {H : Type} : List (Lit × DataW H) → Nat
  | [] => 0
  | x :: r => uptoBulkEntry x + uptoBulkEntries r
def uptoBulkEntry {H : Type} : Lit × DataW H → Nat
  | (.string bytes, d) => bytes.length + uptoBulk d + 1
  | (_, d) => uptoBulk d + 1
 end
def uptoSmall : (H : Type) → List (DataW H) → Bool := fun _ ds => decide (uptoBulkAll ds ≤ 1048576)
def OpenSpec.upto (s : _root_.Go.ChangeSpec) : _root_.Go.OpenSpec := { _root_.Go.OpenSpec.ofChange s with cond := some uptoSmall }

/-- 'baileylaw02.ShaSums', WHERE WHAT IT READS IS OF BULK AT MOST 1048576: true; the input reads as it did. -/
def shaSumsUptoRow : OpenClaim := { program := "ytdookobgkcnncaadoor", sum := "e5aee384c695f41d6a711db4c4b59a34cfac5c4c8852552cfc278d2e72e352a7", func := "bailey/baileylaw02.ShaSums", spec := "shaSums", named := ["bailey/sha.begin", "bailey/sha.constants"], apart := false, laid := [("bailey/sha.constants", laid_bailey_sha_constants), ("bailey/sha.begin", laid_bailey_sha_begin)], narrowed := true }
def ShaSumsUptoSaid : Prop := shaSumsUptoRow.holds Tryd.pinned (OpenSpec.upto shaSumsSpec)

/-- 'baileylaw02.ShaParts', WHERE WHAT IT READS IS OF BULK AT MOST 1048576: true; the input reads as it did. -/
def shaPartsUptoRow : OpenClaim := { program := "ytdookobgkcnncaadoor", sum := "e5aee384c695f41d6a711db4c4b59a34cfac5c4c8852552cfc278d2e72e352a7", func := "bailey/baileylaw02.ShaParts", spec := "shaParts", named := ["bailey/sha.begin", "bailey/sha.constants"], apart := false, laid := [("bailey/sha.constants", laid_bailey_sha_constants), ("bailey/sha.begin", laid_bailey_sha_begin)], narrowed := true }
def ShaPartsUptoSaid : Prop := shaPartsUptoRow.holds Tryd.pinned (OpenSpec.upto shaPartsSpec)

/-- 'baileylaw02.ShaForks', WHERE WHAT IT READS IS OF BULK AT MOST 1048576: true; the input reads as it did. -/
def shaForksUptoRow : OpenClaim := { program := "ytdookobgkcnncaadoor", sum := "e5aee384c695f41d6a711db4c4b59a34cfac5c4c8852552cfc278d2e72e352a7", func := "bailey/baileylaw02.ShaForks", spec := "shaForks", named := ["bailey/sha.begin", "bailey/sha.constants"], apart := false, laid := [("bailey/sha.constants", laid_bailey_sha_constants), ("bailey/sha.begin", laid_bailey_sha_begin)], narrowed := true }
def ShaForksUptoSaid : Prop := shaForksUptoRow.holds Tryd.pinned (OpenSpec.upto shaForksSpec)

/-- 'baileylaw02.ShaLengths', WHERE WHAT IT READS IS OF BULK AT MOST 1048576: true; the input reads as it did. -/
def shaLengthsUptoRow : OpenClaim := { program := "ytdookobgkcnncaadoor", sum := "e5aee384c695f41d6a711db4c4b59a34cfac5c4c8852552cfc278d2e72e352a7", func := "bailey/baileylaw02.ShaLengths", spec := "shaLengths", named := ["bailey/sha.begin", "bailey/sha.constants"], apart := false, laid := [("bailey/sha.constants", laid_bailey_sha_constants), ("bailey/sha.begin", laid_bailey_sha_begin)], narrowed := true }
def ShaLengthsUptoSaid : Prop := shaLengthsUptoRow.holds Tryd.pinned (OpenSpec.upto shaLengthsSpec)

/-- 'baileylaw03.HmacTags', WHERE WHAT IT READS IS OF BULK AT MOST 1048576: true; the input reads as it did. -/
def hmacTagsUptoRow : OpenClaim := { program := "ytdookobgkcnncaadoor", sum := "e5aee384c695f41d6a711db4c4b59a34cfac5c4c8852552cfc278d2e72e352a7", func := "bailey/baileylaw03.HmacTags", spec := "hmacTags", inPlace := ["internal/reflectlite.ValueOf", "(internal/reflectlite.Value).Type", "(internal/reflectlite.Value).IsNil", "internal/reflectlite.TypeOf", "(internal/reflectlite.Value).Elem", "(internal/reflectlite.Value).Set"], unfollowed := true, recurses := true, named := ["bailey/sha.begin", "bailey/sha.constants", "errors.errorType"], apart := false, laid := [("errors.errorType", laid_errors_errorType), ("bailey/sha.constants", laid_bailey_sha_constants), ("bailey/sha.begin", laid_bailey_sha_begin)], narrowed := true }
def HmacTagsUptoSaid : Prop := hmacTagsUptoRow.holds Tryd.pinned (OpenSpec.upto hmacTagsSpec)

/-- 'baileylaw03.HmacKeys', WHERE WHAT IT READS IS OF BULK AT MOST 1048576: true; the input reads as it did. -/
def hmacKeysUptoRow : OpenClaim := { program := "ytdookobgkcnncaadoor", sum := "e5aee384c695f41d6a711db4c4b59a34cfac5c4c8852552cfc278d2e72e352a7", func := "bailey/baileylaw03.HmacKeys", spec := "hmacKeys", inPlace := ["internal/reflectlite.ValueOf", "(internal/reflectlite.Value).Type", "(internal/reflectlite.Value).IsNil", "internal/reflectlite.TypeOf", "(internal/reflectlite.Value).Elem", "(internal/reflectlite.Value).Set"], unfollowed := true, recurses := true, named := ["bailey/sha.begin", "bailey/sha.constants", "errors.errorType"], apart := false, laid := [("errors.errorType", laid_errors_errorType), ("bailey/sha.constants", laid_bailey_sha_constants), ("bailey/sha.begin", laid_bailey_sha_begin)], narrowed := true }
def HmacKeysUptoSaid : Prop := hmacKeysUptoRow.holds Tryd.pinned (OpenSpec.upto hmacKeysSpec)

/-- 'baileylaw03.HmacLong', WHERE WHAT IT READS IS OF BULK AT MOST 1048576: true; the input reads as it did. -/
def hmacLongUptoRow : OpenClaim := { program := "ytdookobgkcnncaadoor", sum := "e5aee384c695f41d6a711db4c4b59a34cfac5c4c8852552cfc278d2e72e352a7", func := "bailey/baileylaw03.HmacLong", spec := "hmacLong", inPlace := ["internal/reflectlite.ValueOf", "(internal/reflectlite.Value).Type", "(internal/reflectlite.Value).IsNil", "internal/reflectlite.TypeOf", "(internal/reflectlite.Value).Elem", "(internal/reflectlite.Value).Set"], unfollowed := true, recurses := true, named := ["bailey/sha.begin", "bailey/sha.constants", "errors.errorType"], apart := false, laid := [("errors.errorType", laid_errors_errorType), ("bailey/sha.constants", laid_bailey_sha_constants), ("bailey/sha.begin", laid_bailey_sha_begin)], narrowed := true }
def HmacLongUptoSaid : Prop := hmacLongUptoRow.holds Tryd.pinned (OpenSpec.upto hmacLongSpec)

end Rows
end Go.Proofs.YtdookobgkcnncaaDoor
