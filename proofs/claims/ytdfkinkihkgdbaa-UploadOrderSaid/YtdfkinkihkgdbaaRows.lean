/-
  No cell of these rows narrows 'for every input' (looked for: loops, veiled, ifaces, maps, wideKeys, modest, calm, conditions, laid).
  DERIVED. THE GIVEN ROWS OF THIS SEAT. 8 by the template 'for every input the law returns true; each argument reads behind the call as it read before'; 0 by the template 'total and deterministic' (their statements: YtdfkinkihkgdbaaTotals.lean).
  GIVEN WITH THE SEED: the statements are not yours to turn. If you find one false, say at which input.
  Laid BY PROGRAM, IN A SANDBOX (cutbox-rows.mjs): the forced cells as the released guide's own fill.sh prints them over the translation 63be94db4fad22b8… (all of the seat's roots in one cut). By AI agents, Wed Nov 11 2026. No macro, syntax, notation, axiom, sorry.
-/
import Derived.Test.YtdfkinkihkgdbaaChecked
import GoSem.Claim
import GoSem.ClaimJoined
import GoSem.ClaimMapViews
import Derived.JoinedTies
import Derived.KernelRfl
namespace Go.Proofs.Ytdfkinkihkgdbaa
/- THE CELL 'sum', in the pinned program and in every row, IS THE sha256 OF THE DUMP (.gsa) THAT YtdfkinkihkgdbaaProg.lean LOADS. Nothing in Lean hashes anything: it is a label: what it is worth is what the hold of that sum in a sandbox is worth. -/
noncomputable def Try.pinned : Pinned := { name := "ytdfkinkihkgdbaa", sum := "63be94db4fad22b821ba5b33799d8115a76cd0cedbfa311ba2f9af2acb3b5106", checked := Try.checked }
namespace Rows
def none {H : Type} : Left H := { results := [], args := [] }

/-- 'stelelaw04.UriEncodes': WHATEVER THE INPUT: true; the input reads as it did. -/
def uriEncodesSpec : ChangeSpec := { name := "uriEncodes", fn := fun _ => fun
  | [d1, d2] => { results := [.lit (.bool true)], args := [d1, d2] }
  | _ => none }
def uriEncodesRow : OpenClaim := { program := "ytdfkinkihkgdbaa", sum := "63be94db4fad22b821ba5b33799d8115a76cd0cedbfa311ba2f9af2acb3b5106", func := "stele/stelelaw04.UriEncodes", spec := "uriEncodes", inPlace := ["internal/bytealg.IndexByteString", "internal/abi.NoEscape", "internal/bytealg.IndexString"], named := ["internal/bytealg.MaxLen"], apart := false }
def UriEncodesSaid : Prop := uriEncodesRow.holds Try.pinned (OpenSpec.ofChange uriEncodesSpec)

/-- ITS FALSE NEIGHBOUR: 'it returns false'. Refute it at one input. -/
def uriEncodesWrong : ChangeSpec := { name := "uriEncodes", fn := fun _ => fun
  | [d1, d2] => { results := [.lit (.bool false)], args := [d1, d2] }
  | _ => none }
def UriEncodesWrongFalsely : Prop := uriEncodesRow.holds Try.pinned (OpenSpec.ofChange uriEncodesWrong)

/-- 'stelelaw04.UriDecodes': WHATEVER THE INPUT: true; the input reads as it did. -/
def uriDecodesSpec : ChangeSpec := { name := "uriDecodes", fn := fun _ => fun
  | [d] => { results := [.lit (.bool true)], args := [d] }
  | _ => none }
def uriDecodesRow : OpenClaim := { program := "ytdfkinkihkgdbaa", sum := "63be94db4fad22b821ba5b33799d8115a76cd0cedbfa311ba2f9af2acb3b5106", func := "stele/stelelaw04.UriDecodes", spec := "uriDecodes", inPlace := ["internal/bytealg.IndexByteString", "internal/bytealg.IndexString", "internal/abi.NoEscape"], named := ["internal/bytealg.MaxLen"], apart := false }
def UriDecodesSaid : Prop := uriDecodesRow.holds Try.pinned (OpenSpec.ofChange uriDecodesSpec)

/-- ITS FALSE NEIGHBOUR: 'it returns false'. Refute it at one input. -/
def uriDecodesWrong : ChangeSpec := { name := "uriDecodes", fn := fun _ => fun
  | [d] => { results := [.lit (.bool false)], args := [d] }
  | _ => none }
def UriDecodesWrongFalsely : Prop := uriDecodesRow.holds Try.pinned (OpenSpec.ofChange uriDecodesWrong)

/-- 'stelelaw04.UriPaths': WHATEVER THE INPUT: true; the input reads as it did. -/
def uriPathsSpec : ChangeSpec := { name := "uriPaths", fn := fun _ => fun
  | [d] => { results := [.lit (.bool true)], args := [d] }
  | _ => none }
def uriPathsRow : OpenClaim := { program := "ytdfkinkihkgdbaa", sum := "63be94db4fad22b821ba5b33799d8115a76cd0cedbfa311ba2f9af2acb3b5106", func := "stele/stelelaw04.UriPaths", spec := "uriPaths", inPlace := ["internal/bytealg.IndexByteString", "internal/bytealg.IndexString", "internal/abi.NoEscape"], named := ["internal/bytealg.MaxLen"], apart := false }
def UriPathsSaid : Prop := uriPathsRow.holds Try.pinned (OpenSpec.ofChange uriPathsSpec)

/-- ITS FALSE NEIGHBOUR: 'it returns false'. Refute it at one input. -/
def uriPathsWrong : ChangeSpec := { name := "uriPaths", fn := fun _ => fun
  | [d] => { results := [.lit (.bool false)], args := [d] }
  | _ => none }
def UriPathsWrongFalsely : Prop := uriPathsRow.holds Try.pinned (OpenSpec.ofChange uriPathsWrong)

/-- 'stelelaw04.UriBack': WHATEVER THE INPUT: true; the input reads as it did. -/
def uriBackSpec : ChangeSpec := { name := "uriBack", fn := fun _ => fun
  | [d1, d2, d3] => { results := [.lit (.bool true)], args := [d1, d2, d3] }
  | _ => none }
def uriBackRow : OpenClaim := { program := "ytdfkinkihkgdbaa", sum := "63be94db4fad22b821ba5b33799d8115a76cd0cedbfa311ba2f9af2acb3b5106", func := "stele/stelelaw04.UriBack", spec := "uriBack", inPlace := ["internal/bytealg.IndexByteString", "internal/bytealg.IndexString", "internal/abi.NoEscape"], named := ["internal/bytealg.MaxLen"], apart := false }
def UriBackSaid : Prop := uriBackRow.holds Try.pinned (OpenSpec.ofChange uriBackSpec)

/-- ITS FALSE NEIGHBOUR: 'it returns false'. Refute it at one input. -/
def uriBackWrong : ChangeSpec := { name := "uriBack", fn := fun _ => fun
  | [d1, d2, d3] => { results := [.lit (.bool false)], args := [d1, d2, d3] }
  | _ => none }
def UriBackWrongFalsely : Prop := uriBackRow.holds Try.pinned (OpenSpec.ofChange uriBackWrong)

/-- 'stelelaw16.UploadJoins': WHATEVER THE INPUT: true; the input reads as it did. -/
def uploadJoinsSpec : ChangeSpec := { name := "uploadJoins", fn := fun _ => fun
  | [d1, d2] => { results := [.lit (.bool true)], args := [d1, d2] }
  | _ => none }
def uploadJoinsRow : OpenClaim := { program := "ytdfkinkihkgdbaa", sum := "63be94db4fad22b821ba5b33799d8115a76cd0cedbfa311ba2f9af2acb3b5106", func := "stele/stelelaw16.UploadJoins", spec := "uploadJoins", inPlace := ["slices.overlaps[stele/api.Part]"], unfollowed := true, recurses := true, apart := false }
def UploadJoinsSaid : Prop := uploadJoinsRow.holds Try.pinned (OpenSpec.ofChange uploadJoinsSpec)

/-- ITS FALSE NEIGHBOUR: 'it returns false'. Refute it at one input. -/
def uploadJoinsWrong : ChangeSpec := { name := "uploadJoins", fn := fun _ => fun
  | [d1, d2] => { results := [.lit (.bool false)], args := [d1, d2] }
  | _ => none }
def UploadJoinsWrongFalsely : Prop := uploadJoinsRow.holds Try.pinned (OpenSpec.ofChange uploadJoinsWrong)

/-- 'stelelaw16.UploadOrder': WHATEVER THE INPUT: true; the input reads as it did. -/
def uploadOrderSpec : ChangeSpec := { name := "uploadOrder", fn := fun _ => fun
  | [d] => { results := [.lit (.bool true)], args := [d] }
  | _ => none }
def uploadOrderRow : OpenClaim := { program := "ytdfkinkihkgdbaa", sum := "63be94db4fad22b821ba5b33799d8115a76cd0cedbfa311ba2f9af2acb3b5106", func := "stele/stelelaw16.UploadOrder", spec := "uploadOrder", inPlace := ["slices.overlaps[stele/api.Part]"], unfollowed := true, recurses := true, apart := false }
def UploadOrderSaid : Prop := uploadOrderRow.holds Try.pinned (OpenSpec.ofChange uploadOrderSpec)

/-- ITS FALSE NEIGHBOUR: 'it returns false'. Refute it at one input. -/
def uploadOrderWrong : ChangeSpec := { name := "uploadOrder", fn := fun _ => fun
  | [d] => { results := [.lit (.bool false)], args := [d] }
  | _ => none }
def UploadOrderWrongFalsely : Prop := uploadOrderRow.holds Try.pinned (OpenSpec.ofChange uploadOrderWrong)

/-- 'stelelaw16.UploadPuts': WHATEVER THE INPUT: true; the input reads as it did. -/
def uploadPutsSpec : ChangeSpec := { name := "uploadPuts", fn := fun _ => fun
  | [d1, d2, d3] => { results := [.lit (.bool true)], args := [d1, d2, d3] }
  | _ => none }
def uploadPutsRow : OpenClaim := { program := "ytdfkinkihkgdbaa", sum := "63be94db4fad22b821ba5b33799d8115a76cd0cedbfa311ba2f9af2acb3b5106", func := "stele/stelelaw16.UploadPuts", spec := "uploadPuts", inPlace := ["slices.overlaps[stele/api.Part]"], unfollowed := true, recurses := true, apart := false }
def UploadPutsSaid : Prop := uploadPutsRow.holds Try.pinned (OpenSpec.ofChange uploadPutsSpec)

/-- ITS FALSE NEIGHBOUR: 'it returns false'. Refute it at one input. -/
def uploadPutsWrong : ChangeSpec := { name := "uploadPuts", fn := fun _ => fun
  | [d1, d2, d3] => { results := [.lit (.bool false)], args := [d1, d2, d3] }
  | _ => none }
def UploadPutsWrongFalsely : Prop := uploadPutsRow.holds Try.pinned (OpenSpec.ofChange uploadPutsWrong)

/-- 'stelelaw04.UriCanons': WHATEVER THE INPUT: true; the input reads as it did. -/
def uriCanonsSpec : ChangeSpec := { name := "uriCanons", fn := fun _ => fun
  | [d] => { results := [.lit (.bool true)], args := [d] }
  | _ => none }
def uriCanonsRow : OpenClaim := { program := "ytdfkinkihkgdbaa", sum := "63be94db4fad22b821ba5b33799d8115a76cd0cedbfa311ba2f9af2acb3b5106", func := "stele/stelelaw04.UriCanons", spec := "uriCanons", inPlace := ["internal/bytealg.IndexByteString", "internal/bytealg.IndexString", "internal/abi.NoEscape", "internal/bytealg.MakeNoZero"], unfollowed := true, recurses := true, named := ["internal/bytealg.MaxLen"], apart := false }
def UriCanonsSaid : Prop := uriCanonsRow.holds Try.pinned (OpenSpec.ofChange uriCanonsSpec)

/-- ITS FALSE NEIGHBOUR: 'it returns false'. Refute it at one input. -/
def uriCanonsWrong : ChangeSpec := { name := "uriCanons", fn := fun _ => fun
  | [d] => { results := [.lit (.bool false)], args := [d] }
  | _ => none }
def UriCanonsWrongFalsely : Prop := uriCanonsRow.holds Try.pinned (OpenSpec.ofChange uriCanonsWrong)

/- THE SECOND FORM. 'bulk': how many values and letters a reading holds, each counted each time it is reached (what is shared counts as often as it is met; a slice's spare places count too). A statement '..UptoSaid' is the law's where the arguments, and the package variables that the reading takes, are together of bulk at most 1048576: NARROWER than '..Said'. Prove '..Said' where nothing that the law and all that it calls make is longer than what came in: it says more and counts as full. Else prove '..UptoSaid'. A law counts once. -/
mutual
def uptoBulk {H : Type} : DataW H → Nat
  | .lit (.string bytes) => bytes.length + 1
  | .lit _ => 1
  | .nil => 1
  | .ptr d => uptoBulk d + 1
  | .slice elems spare => uptoBulkAll elems + uptoBulkAll spare + 1
  | .agg parts => uptoBulkAll parts + 1
  | .iface _ d => uptoBulk d + 1
  | .map entries => uptoBulkEntries entries + 1
  | .held _ => 1
def uptoBulkAll {H : Type} : List (DataW H) → Nat
  | [] => 0
  | d :: r => uptoBulk d + uptoBulkAll r
def uptoBulkEntries {H : Type} : List (Lit × DataW H) → Nat
  | [] => 0
  | x :: r => uptoBulkEntry x + uptoBulkEntries r
def uptoBulkEntry {H : Type} : Lit × DataW H → Nat
  | (.string bytes, d) => bytes.length + uptoBulk d + 1
  | (_, d) => uptoBulk d + 1
 end
def uptoSmall : (H : Type) → List (DataW H) → Bool := fun _ ds => decide (uptoBulkAll ds ≤ 1048576)
def OpenSpec.upto (s : _root_.Go.ChangeSpec) : _root_.Go.OpenSpec := { _root_.Go.OpenSpec.ofChange s with cond := some uptoSmall }

/-- 'stelelaw04.UriEncodes', WHERE WHAT IT READS IS OF BULK AT MOST 1048576: true; the input reads as it did. -/
def uriEncodesUptoRow : OpenClaim := { program := "ytdfkinkihkgdbaa", sum := "63be94db4fad22b821ba5b33799d8115a76cd0cedbfa311ba2f9af2acb3b5106", func := "stele/stelelaw04.UriEncodes", spec := "uriEncodes", inPlace := ["internal/bytealg.IndexByteString", "internal/abi.NoEscape", "internal/bytealg.IndexString"], named := ["internal/bytealg.MaxLen"], apart := false, narrowed := true }
def UriEncodesUptoSaid : Prop := uriEncodesUptoRow.holds Try.pinned (OpenSpec.upto uriEncodesSpec)

/-- 'stelelaw04.UriDecodes', WHERE WHAT IT READS IS OF BULK AT MOST 1048576: true; the input reads as it did. -/
def uriDecodesUptoRow : OpenClaim := { program := "ytdfkinkihkgdbaa", sum := "63be94db4fad22b821ba5b33799d8115a76cd0cedbfa311ba2f9af2acb3b5106", func := "stele/stelelaw04.UriDecodes", spec := "uriDecodes", inPlace := ["internal/bytealg.IndexByteString", "internal/bytealg.IndexString", "internal/abi.NoEscape"], named := ["internal/bytealg.MaxLen"], apart := false, narrowed := true }
def UriDecodesUptoSaid : Prop := uriDecodesUptoRow.holds Try.pinned (OpenSpec.upto uriDecodesSpec)

/-- 'stelelaw04.UriPaths', WHERE WHAT IT READS IS OF BULK AT MOST 1048576: true; the input reads as it did. -/
def uriPathsUptoRow : OpenClaim := { program := "ytdfkinkihkgdbaa", sum := "63be94db4fad22b821ba5b33799d8115a76cd0cedbfa311ba2f9af2acb3b5106", func := "stele/stelelaw04.UriPaths", spec := "uriPaths", inPlace := ["internal/bytealg.IndexByteString", "internal/bytealg.IndexString", "internal/abi.NoEscape"], named := ["internal/bytealg.MaxLen"], apart := false, narrowed := true }
def UriPathsUptoSaid : Prop := uriPathsUptoRow.holds Try.pinned (OpenSpec.upto uriPathsSpec)

/-- 'stelelaw04.UriBack', WHERE WHAT IT READS IS OF BULK AT MOST 1048576: true; the input reads as it did. -/
def uriBackUptoRow : OpenClaim := { program := "ytdfkinkihkgdbaa", sum := "63be94db4fad22b821ba5b33799d8115a76cd0cedbfa311ba2f9af2acb3b5106", func := "stele/stelelaw04.UriBack", spec := "uriBack", inPlace := ["internal/bytealg.IndexByteString", "internal/bytealg.IndexString", "internal/abi.NoEscape"], named := ["internal/bytealg.MaxLen"], apart := false, narrowed := true }
def UriBackUptoSaid : Prop := uriBackUptoRow.holds Try.pinned (OpenSpec.upto uriBackSpec)

/-- 'stelelaw16.UploadJoins', WHERE WHAT IT READS IS OF BULK AT MOST 1048576: true; the input reads as it did. -/
def uploadJoinsUptoRow : OpenClaim := { program := "ytdfkinkihkgdbaa", sum := "63be94db4fad22b821ba5b33799d8115a76cd0cedbfa311ba2f9af2acb3b5106", func := "stele/stelelaw16.UploadJoins", spec := "uploadJoins", inPlace := ["slices.overlaps[stele/api.Part]"], unfollowed := true, recurses := true, apart := false, narrowed := true }
def UploadJoinsUptoSaid : Prop := uploadJoinsUptoRow.holds Try.pinned (OpenSpec.upto uploadJoinsSpec)

/-- 'stelelaw16.UploadOrder', WHERE WHAT IT READS IS OF BULK AT MOST 1048576: true; the input reads as it did. -/
def uploadOrderUptoRow : OpenClaim := { program := "ytdfkinkihkgdbaa", sum := "63be94db4fad22b821ba5b33799d8115a76cd0cedbfa311ba2f9af2acb3b5106", func := "stele/stelelaw16.UploadOrder", spec := "uploadOrder", inPlace := ["slices.overlaps[stele/api.Part]"], unfollowed := true, recurses := true, apart := false, narrowed := true }
def UploadOrderUptoSaid : Prop := uploadOrderUptoRow.holds Try.pinned (OpenSpec.upto uploadOrderSpec)

/-- 'stelelaw16.UploadPuts', WHERE WHAT IT READS IS OF BULK AT MOST 1048576: true; the input reads as it did. -/
def uploadPutsUptoRow : OpenClaim := { program := "ytdfkinkihkgdbaa", sum := "63be94db4fad22b821ba5b33799d8115a76cd0cedbfa311ba2f9af2acb3b5106", func := "stele/stelelaw16.UploadPuts", spec := "uploadPuts", inPlace := ["slices.overlaps[stele/api.Part]"], unfollowed := true, recurses := true, apart := false, narrowed := true }
def UploadPutsUptoSaid : Prop := uploadPutsUptoRow.holds Try.pinned (OpenSpec.upto uploadPutsSpec)

/-- 'stelelaw04.UriCanons', WHERE WHAT IT READS IS OF BULK AT MOST 1048576: true; the input reads as it did. -/
def uriCanonsUptoRow : OpenClaim := { program := "ytdfkinkihkgdbaa", sum := "63be94db4fad22b821ba5b33799d8115a76cd0cedbfa311ba2f9af2acb3b5106", func := "stele/stelelaw04.UriCanons", spec := "uriCanons", inPlace := ["internal/bytealg.IndexByteString", "internal/bytealg.IndexString", "internal/abi.NoEscape", "internal/bytealg.MakeNoZero"], unfollowed := true, recurses := true, named := ["internal/bytealg.MaxLen"], apart := false, narrowed := true }
def UriCanonsUptoSaid : Prop := uriCanonsUptoRow.holds Try.pinned (OpenSpec.upto uriCanonsSpec)

end Rows
end Go.Proofs.Ytdfkinkihkgdbaa
