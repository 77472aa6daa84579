/-
  NARROWER THAN 'FOR EVERY INPUT', by the rows' own cells (each row's printed sentence says how): ObjectsMatchesReference: laid · ObjectsAddresses: laid · ObjectsDamage: laid · ObjectsUnion: laid · ObjectsKeep: laid · ObjectsFiles: laid.
  DERIVED. THE GIVEN ROWS OF THIS SEAT. 6 by the template 'for every input the law returns true; each argument reads behind the call as it read before'; 0 by the template 'total and deterministic' (their statements: YtanhehbfbakdcaaGreatDoorTotals.lean).
  GIVEN WITH THE SEED: the statements are not yours to turn. If you find one false, say at which input.
  Laid BY PROGRAM, IN A SANDBOX (cutbox-rows.mjs): the forced cells as the released guide's own fill.sh prints them over the translation 7d894e8b06185e4b… (all of the seat's roots in one cut). By AI agents, Wed Nov 11 2026. No macro, syntax, notation, axiom, sorry.
-/
import Derived.Test.YtanhehbfbakdcaaGreatDoorChecked
import GoSem.Claim
import GoSem.ClaimJoined
import GoSem.ClaimMapViews
import Derived.JoinedTies
import Derived.KernelRfl
namespace Go.Proofs.YtanhehbfbakdcaaGreatDoor
/- THE CELL 'sum', in the pinned program and in every row, IS THE sha256 OF THE DUMP (.gsa) THAT YtanhehbfbakdcaaGreatDoorProg.lean LOADS. Nothing in Lean hashes anything: it is a label: what it is worth is what the hold of that sum in a sandbox is worth. -/
noncomputable def Tryz.pinned : Pinned := { name := "ytanhehbfbakdcaagreatdoor", sum := "7d894e8b06185e4bb1a4c4a992d09651c745e7eee287211d8f5070c077127ee7", checked := Tryz.checked }
namespace Rows
def none {H : Type} : Left H := { results := [], args := [] }

/- WHAT THE LISTED PACKAGE-LEVEL VARIABLES READ AS WHEN THE CALL BEGINS. Each datum BY PROGRAM (the guide's laid-datum.mjs) off the statement by which the dump's own 'gosem.cut.vars' lays the variable. In a bare row this is a premise. The card (YtanhehbfbakdcaaGreatDoorCards.lean) ties it to the program's text. -/
def laid_math_bits_deBruijn32tab {H : Type} : DataW H := .agg [.lit (.int .u8 0), .lit (.int .u8 1), .lit (.int .u8 28), .lit (.int .u8 2), .lit (.int .u8 29), .lit (.int .u8 14), .lit (.int .u8 24), .lit (.int .u8 3), .lit (.int .u8 30), .lit (.int .u8 22), .lit (.int .u8 20), .lit (.int .u8 15), .lit (.int .u8 25), .lit (.int .u8 17), .lit (.int .u8 4), .lit (.int .u8 8), .lit (.int .u8 31), .lit (.int .u8 27), .lit (.int .u8 13), .lit (.int .u8 23), .lit (.int .u8 21), .lit (.int .u8 19), .lit (.int .u8 16), .lit (.int .u8 7), .lit (.int .u8 26), .lit (.int .u8 12), .lit (.int .u8 18), .lit (.int .u8 6), .lit (.int .u8 11), .lit (.int .u8 5), .lit (.int .u8 10), .lit (.int .u8 9)]
def laid_math_bits_deBruijn64tab {H : Type} : DataW H := .agg [.lit (.int .u8 0), .lit (.int .u8 1), .lit (.int .u8 56), .lit (.int .u8 2), .lit (.int .u8 57), .lit (.int .u8 49), .lit (.int .u8 28), .lit (.int .u8 3), .lit (.int .u8 61), .lit (.int .u8 58), .lit (.int .u8 42), .lit (.int .u8 50), .lit (.int .u8 38), .lit (.int .u8 29), .lit (.int .u8 17), .lit (.int .u8 4), .lit (.int .u8 62), .lit (.int .u8 47), .lit (.int .u8 59), .lit (.int .u8 36), .lit (.int .u8 45), .lit (.int .u8 43), .lit (.int .u8 51), .lit (.int .u8 22), .lit (.int .u8 53), .lit (.int .u8 39), .lit (.int .u8 33), .lit (.int .u8 30), .lit (.int .u8 24), .lit (.int .u8 18), .lit (.int .u8 12), .lit (.int .u8 5), .lit (.int .u8 63), .lit (.int .u8 55), .lit (.int .u8 48), .lit (.int .u8 27), .lit (.int .u8 60), .lit (.int .u8 41), .lit (.int .u8 37), .lit (.int .u8 16), .lit (.int .u8 46), .lit (.int .u8 35), .lit (.int .u8 44), .lit (.int .u8 21), .lit (.int .u8 52), .lit (.int .u8 32), .lit (.int .u8 23), .lit (.int .u8 11), .lit (.int .u8 54), .lit (.int .u8 26), .lit (.int .u8 40), .lit (.int .u8 15), .lit (.int .u8 34), .lit (.int .u8 20), .lit (.int .u8 31), .lit (.int .u8 10), .lit (.int .u8 25), .lit (.int .u8 14), .lit (.int .u8 19), .lit (.int .u8 9), .lit (.int .u8 13), .lit (.int .u8 8), .lit (.int .u8 7), .lit (.int .u8 6)]
def laid_internal_strconv_uint64pow10 {H : Type} : DataW H := .agg [.lit (.int .u64 1), .lit (.int .u64 10), .lit (.int .u64 100), .lit (.int .u64 1000), .lit (.int .u64 10000), .lit (.int .u64 100000), .lit (.int .u64 1000000), .lit (.int .u64 10000000), .lit (.int .u64 100000000), .lit (.int .u64 1000000000), .lit (.int .u64 10000000000), .lit (.int .u64 100000000000), .lit (.int .u64 1000000000000), .lit (.int .u64 10000000000000), .lit (.int .u64 100000000000000), .lit (.int .u64 1000000000000000), .lit (.int .u64 10000000000000000), .lit (.int .u64 100000000000000000), .lit (.int .u64 1000000000000000000), .lit (.int .u64 10000000000000000000)]
def laid_strconv_ErrRange {H : Type} : DataW H := .iface "*errors.errorString" (.ptr (.agg [.lit (.string [118, 97, 108, 117, 101, 32, 111, 117, 116, 32, 111, 102, 32, 114, 97, 110, 103, 101])]))
def laid_strconv_ErrSyntax {H : Type} : DataW H := .iface "*errors.errorString" (.ptr (.agg [.lit (.string [105, 110, 118, 97, 108, 105, 100, 32, 115, 121, 110, 116, 97, 120])]))
def laid_wireloom_syntax_reserved {H : Type} : DataW H := .map [(.string [97, 100, 100], .lit (.bool true)), (.string [97, 116], .lit (.bool true)), (.string [99, 104, 97, 110], .lit (.bool true)), (.string [99, 111, 112, 121], .lit (.bool true)), (.string [105, 102], .lit (.bool true)), (.string [105, 110], .lit (.bool true)), (.string [105, 110, 105, 116], .lit (.bool true)), (.string [105, 110, 115, 116], .lit (.bool true)), (.string [107, 101, 101, 112], .lit (.bool true)), (.string [109, 101, 109], .lit (.bool true)), (.string [109, 111, 100, 117, 108, 101], .lit (.bool true)), (.string [111, 117, 116], .lit (.bool true)), (.string [112, 117, 116], .lit (.bool true)), (.string [114, 101, 103], .lit (.bool true)), (.string [116, 97, 107, 101], .lit (.bool true)), (.string [119, 105, 114, 101], .lit (.bool true))]
def laid_wireloom_syntax_operators {H : Type} : DataW H := .map [(.string [38], .lit (.int .i64 3)), (.string [43], .lit (.int .i64 6)), (.string [45], .lit (.int .i64 7)), (.string [46], .lit (.int .i64 11)), (.string [60], .lit (.int .i64 9)), (.string [61, 61], .lit (.int .i64 8)), (.string [94], .lit (.int .i64 5)), (.string [124], .lit (.int .i64 4))]

/-- 'wireloomlaw18.ObjectsMatchesReference': WHATEVER THE INPUT: true; the input reads as it did. -/
def objectsMatchesReferenceSpec : ChangeSpec := { name := "objectsMatchesReference", fn := fun _ => fun
  | [d1, d2, d3] => { results := [.lit (.bool true)], args := [d1, d2, d3] }
  | _ => none }
def objectsMatchesReferenceRow : OpenClaim := { program := "ytanhehbfbakdcaagreatdoor", sum := "7d894e8b06185e4bb1a4c4a992d09651c745e7eee287211d8f5070c077127ee7", func := "wireloom/wireloomlaw18.ObjectsMatchesReference", spec := "objectsMatchesReference", inPlace := ["slices.overlaps[wireloom/api.Object]", "internal/bytealg.IndexByteString", "internal/abi.NoEscape"], unfollowed := true, recurses := true, named := ["strconv.ErrSyntax", "strconv.ErrRange", "internal/strconv.uint64pow10", "math/bits.deBruijn32tab", "math/bits.deBruijn64tab", "wireloom/syntax.reserved", "wireloom/syntax.operators"], apart := false, laid := [("math/bits.deBruijn32tab", laid_math_bits_deBruijn32tab), ("math/bits.deBruijn64tab", laid_math_bits_deBruijn64tab), ("internal/strconv.uint64pow10", laid_internal_strconv_uint64pow10), ("strconv.ErrRange", laid_strconv_ErrRange), ("strconv.ErrSyntax", laid_strconv_ErrSyntax), ("wireloom/syntax.reserved", laid_wireloom_syntax_reserved), ("wireloom/syntax.operators", laid_wireloom_syntax_operators)] }
def ObjectsMatchesReferenceSaid : Prop := objectsMatchesReferenceRow.holds Tryz.pinned (OpenSpec.ofChange objectsMatchesReferenceSpec)

/-- ITS FALSE NEIGHBOUR: 'it returns false'. Refute it at one input. -/
def objectsMatchesReferenceWrong : ChangeSpec := { name := "objectsMatchesReference", fn := fun _ => fun
  | [d1, d2, d3] => { results := [.lit (.bool false)], args := [d1, d2, d3] }
  | _ => none }
def ObjectsMatchesReferenceWrongFalsely : Prop := objectsMatchesReferenceRow.holds Tryz.pinned (OpenSpec.ofChange objectsMatchesReferenceWrong)

/-- 'wireloomlaw18.ObjectsAddresses': WHATEVER THE INPUT: true; the input reads as it did. -/
def objectsAddressesSpec : ChangeSpec := { name := "objectsAddresses", fn := fun _ => fun
  | [d1, d2, d3] => { results := [.lit (.bool true)], args := [d1, d2, d3] }
  | _ => none }
def objectsAddressesRow : OpenClaim := { program := "ytanhehbfbakdcaagreatdoor", sum := "7d894e8b06185e4bb1a4c4a992d09651c745e7eee287211d8f5070c077127ee7", func := "wireloom/wireloomlaw18.ObjectsAddresses", spec := "objectsAddresses", inPlace := ["slices.overlaps[wireloom/api.Object]", "internal/bytealg.IndexByteString", "internal/abi.NoEscape"], unfollowed := true, recurses := true, named := ["strconv.ErrSyntax", "strconv.ErrRange", "internal/strconv.uint64pow10", "math/bits.deBruijn32tab", "math/bits.deBruijn64tab", "wireloom/syntax.reserved", "wireloom/syntax.operators"], apart := false, laid := [("math/bits.deBruijn32tab", laid_math_bits_deBruijn32tab), ("math/bits.deBruijn64tab", laid_math_bits_deBruijn64tab), ("internal/strconv.uint64pow10", laid_internal_strconv_uint64pow10), ("strconv.ErrRange", laid_strconv_ErrRange), ("strconv.ErrSyntax", laid_strconv_ErrSyntax), ("wireloom/syntax.reserved", laid_wireloom_syntax_reserved), ("wireloom/syntax.operators", laid_wireloom_syntax_operators)] }
def ObjectsAddressesSaid : Prop := objectsAddressesRow.holds Tryz.pinned (OpenSpec.ofChange objectsAddressesSpec)

/-- ITS FALSE NEIGHBOUR: 'it returns false'. Refute it at one input. -/
def objectsAddressesWrong : ChangeSpec := { name := "objectsAddresses", fn := fun _ => fun
  | [d1, d2, d3] => { results := [.lit (.bool false)], args := [d1, d2, d3] }
  | _ => none }
def ObjectsAddressesWrongFalsely : Prop := objectsAddressesRow.holds Tryz.pinned (OpenSpec.ofChange objectsAddressesWrong)

/-- 'wireloomlaw18.ObjectsDamage': WHATEVER THE INPUT: true; the input reads as it did. -/
def objectsDamageSpec : ChangeSpec := { name := "objectsDamage", fn := fun _ => fun
  | [d1, d2, d3] => { results := [.lit (.bool true)], args := [d1, d2, d3] }
  | _ => none }
def objectsDamageRow : OpenClaim := { program := "ytanhehbfbakdcaagreatdoor", sum := "7d894e8b06185e4bb1a4c4a992d09651c745e7eee287211d8f5070c077127ee7", func := "wireloom/wireloomlaw18.ObjectsDamage", spec := "objectsDamage", inPlace := ["slices.overlaps[wireloom/api.Object]", "internal/bytealg.IndexByteString", "internal/abi.NoEscape"], unfollowed := true, recurses := true, named := ["strconv.ErrSyntax", "strconv.ErrRange", "internal/strconv.uint64pow10", "math/bits.deBruijn32tab", "math/bits.deBruijn64tab", "wireloom/syntax.reserved", "wireloom/syntax.operators"], apart := false, laid := [("math/bits.deBruijn32tab", laid_math_bits_deBruijn32tab), ("math/bits.deBruijn64tab", laid_math_bits_deBruijn64tab), ("internal/strconv.uint64pow10", laid_internal_strconv_uint64pow10), ("strconv.ErrRange", laid_strconv_ErrRange), ("strconv.ErrSyntax", laid_strconv_ErrSyntax), ("wireloom/syntax.reserved", laid_wireloom_syntax_reserved), ("wireloom/syntax.operators", laid_wireloom_syntax_operators)] }
def ObjectsDamageSaid : Prop := objectsDamageRow.holds Tryz.pinned (OpenSpec.ofChange objectsDamageSpec)

/-- ITS FALSE NEIGHBOUR: 'it returns false'. Refute it at one input. -/
def objectsDamageWrong : ChangeSpec := { name := "objectsDamage", fn := fun _ => fun
  | [d1, d2, d3] => { results := [.lit (.bool false)], args := [d1, d2, d3] }
  | _ => none }
def ObjectsDamageWrongFalsely : Prop := objectsDamageRow.holds Tryz.pinned (OpenSpec.ofChange objectsDamageWrong)

/-- 'wireloomlaw18.ObjectsUnion': WHATEVER THE INPUT: true; the input reads as it did. -/
def objectsUnionSpec : ChangeSpec := { name := "objectsUnion", fn := fun _ => fun
  | [d1, d2] => { results := [.lit (.bool true)], args := [d1, d2] }
  | _ => none }
def objectsUnionRow : OpenClaim := { program := "ytanhehbfbakdcaagreatdoor", sum := "7d894e8b06185e4bb1a4c4a992d09651c745e7eee287211d8f5070c077127ee7", func := "wireloom/wireloomlaw18.ObjectsUnion", spec := "objectsUnion", inPlace := ["slices.overlaps[wireloom/api.Object]", "internal/bytealg.IndexByteString", "internal/abi.NoEscape"], unfollowed := true, recurses := true, named := ["strconv.ErrSyntax", "strconv.ErrRange", "internal/strconv.uint64pow10", "math/bits.deBruijn32tab", "math/bits.deBruijn64tab", "wireloom/syntax.reserved", "wireloom/syntax.operators"], apart := false, laid := [("math/bits.deBruijn32tab", laid_math_bits_deBruijn32tab), ("math/bits.deBruijn64tab", laid_math_bits_deBruijn64tab), ("internal/strconv.uint64pow10", laid_internal_strconv_uint64pow10), ("strconv.ErrRange", laid_strconv_ErrRange), ("strconv.ErrSyntax", laid_strconv_ErrSyntax), ("wireloom/syntax.reserved", laid_wireloom_syntax_reserved), ("wireloom/syntax.operators", laid_wireloom_syntax_operators)] }
def ObjectsUnionSaid : Prop := objectsUnionRow.holds Tryz.pinned (OpenSpec.ofChange objectsUnionSpec)

/-- ITS FALSE NEIGHBOUR: 'it returns false'. Refute it at one input. -/
def objectsUnionWrong : ChangeSpec := { name := "objectsUnion", fn := fun _ => fun
  | [d1, d2] => { results := [.lit (.bool false)], args := [d1, d2] }
  | _ => none }
def ObjectsUnionWrongFalsely : Prop := objectsUnionRow.holds Tryz.pinned (OpenSpec.ofChange objectsUnionWrong)

/-- 'wireloomlaw18.ObjectsKeep': WHATEVER THE INPUT: true; the input reads as it did. -/
def objectsKeepSpec : ChangeSpec := { name := "objectsKeep", fn := fun _ => fun
  | [d1, d2, d3] => { results := [.lit (.bool true)], args := [d1, d2, d3] }
  | _ => none }
def objectsKeepRow : OpenClaim := { program := "ytanhehbfbakdcaagreatdoor", sum := "7d894e8b06185e4bb1a4c4a992d09651c745e7eee287211d8f5070c077127ee7", func := "wireloom/wireloomlaw18.ObjectsKeep", spec := "objectsKeep", inPlace := ["slices.overlaps[wireloom/api.Object]", "internal/bytealg.IndexByteString", "internal/abi.NoEscape"], unfollowed := true, recurses := true, named := ["strconv.ErrSyntax", "strconv.ErrRange", "internal/strconv.uint64pow10", "math/bits.deBruijn32tab", "math/bits.deBruijn64tab", "wireloom/syntax.reserved", "wireloom/syntax.operators"], apart := false, laid := [("math/bits.deBruijn32tab", laid_math_bits_deBruijn32tab), ("math/bits.deBruijn64tab", laid_math_bits_deBruijn64tab), ("internal/strconv.uint64pow10", laid_internal_strconv_uint64pow10), ("strconv.ErrRange", laid_strconv_ErrRange), ("strconv.ErrSyntax", laid_strconv_ErrSyntax), ("wireloom/syntax.reserved", laid_wireloom_syntax_reserved), ("wireloom/syntax.operators", laid_wireloom_syntax_operators)] }
def ObjectsKeepSaid : Prop := objectsKeepRow.holds Tryz.pinned (OpenSpec.ofChange objectsKeepSpec)

/-- ITS FALSE NEIGHBOUR: 'it returns false'. Refute it at one input. -/
def objectsKeepWrong : ChangeSpec := { name := "objectsKeep", fn := fun _ => fun
  | [d1, d2, d3] => { results := [.lit (.bool false)], args := [d1, d2, d3] }
  | _ => none }
def ObjectsKeepWrongFalsely : Prop := objectsKeepRow.holds Tryz.pinned (OpenSpec.ofChange objectsKeepWrong)

/-- 'wireloomlaw18.ObjectsFiles': WHATEVER THE INPUT: true; the input reads as it did. -/
def objectsFilesSpec : ChangeSpec := { name := "objectsFiles", fn := fun _ => fun
  | [d1, d2, d3] => { results := [.lit (.bool true)], args := [d1, d2, d3] }
  | _ => none }
def objectsFilesRow : OpenClaim := { program := "ytanhehbfbakdcaagreatdoor", sum := "7d894e8b06185e4bb1a4c4a992d09651c745e7eee287211d8f5070c077127ee7", func := "wireloom/wireloomlaw18.ObjectsFiles", spec := "objectsFiles", inPlace := ["slices.overlaps[wireloom/api.Object]", "internal/bytealg.IndexByteString", "internal/abi.NoEscape"], unfollowed := true, recurses := true, named := ["strconv.ErrSyntax", "strconv.ErrRange", "internal/strconv.uint64pow10", "math/bits.deBruijn32tab", "math/bits.deBruijn64tab", "wireloom/syntax.reserved", "wireloom/syntax.operators"], apart := false, laid := [("math/bits.deBruijn32tab", laid_math_bits_deBruijn32tab), ("math/bits.deBruijn64tab", laid_math_bits_deBruijn64tab), ("internal/strconv.uint64pow10", laid_internal_strconv_uint64pow10), ("strconv.ErrRange", laid_strconv_ErrRange), ("strconv.ErrSyntax", laid_strconv_ErrSyntax), ("wireloom/syntax.reserved", laid_wireloom_syntax_reserved), ("wireloom/syntax.operators", laid_wireloom_syntax_operators)] }
def ObjectsFilesSaid : Prop := objectsFilesRow.holds Tryz.pinned (OpenSpec.ofChange objectsFilesSpec)

/-- ITS FALSE NEIGHBOUR: 'it returns false'. Refute it at one input. -/
def objectsFilesWrong : ChangeSpec := { name := "objectsFiles", fn := fun _ => fun
  | [d1, d2, d3] => { results := [.lit (.bool false)], args := [d1, d2, d3] }
  | _ => none }
def ObjectsFilesWrongFalsely : Prop := objectsFilesRow.holds Tryz.pinned (OpenSpec.ofChange objectsFilesWrong)

/- THE SECOND FORM. 'bulk': how many values and letters a reading holds, each counted each time it is reached (what is shared counts as often as it is met; a slice's spare places count too). A statement '..UptoSaid' is the law's where the arguments, and the package variables that the reading takes, are together of bulk at most 1048576: NARROWER than '..Said'. Prove '..Said' where nothing that the law and all that it calls make is longer than what came in: it says more and counts as full. Else prove '..UptoSaid'. A law counts once. -/
mutual
def uptoBulk {H : Type} : DataW H → Nat
  | .lit (.string bytes) => bytes.length + 1
  | .lit _ => 1
  | .nil => 1
  | .ptr d => uptoBulk d + 1
  | .slice elems spare => uptoBulkAll elems + uptoBulkAll spare + 1
  | .agg parts => uptoBulkAll parts + 1
  | .iface _ d => uptoBulk d + 1
  | .map entries => uptoBulkEntries entries + 1
  | .held _ => 1
def uptoBulkAll {H : Type} : List (DataW H) → Nat
  | [] => 0
  | d :: r => uptoBulk d + uptoBulkAll r
def uptoBulkEntries {H : Type} : List (Lit × DataW H) → Nat
  | [] => 0
  | x :: r => uptoBulkEntry x + uptoBulkEntries r
def uptoBulkEntry {H : Type} : Lit × DataW H → Nat
  | (.string bytes, d) => bytes.length + uptoBulk d + 1
  | (_, d) => uptoBulk d + 1
 end
def uptoSmall : (H : Type) → List (DataW H) → Bool := fun _ ds => decide (uptoBulkAll ds ≤ 1048576)
def OpenSpec.upto (s : _root_.Go.ChangeSpec) : _root_.Go.OpenSpec := { _root_.Go.OpenSpec.ofChange s with cond := some uptoSmall }

/-- 'wireloomlaw18.ObjectsMatchesReference', WHERE WHAT IT READS IS OF BULK AT MOST 1048576: true; the input reads as it did. -/
def objectsMatchesReferenceUptoRow : OpenClaim := { program := "ytanhehbfbakdcaagreatdoor", sum := "7d894e8b06185e4bb1a4c4a992d09651c745e7eee287211d8f5070c077127ee7", func := "wireloom/wireloomlaw18.ObjectsMatchesReference", spec := "objectsMatchesReference", inPlace := ["slices.overlaps[wireloom/api.Object]", "internal/bytealg.IndexByteString", "internal/abi.NoEscape"], unfollowed := true, recurses := true, named := ["strconv.ErrSyntax", "strconv.ErrRange", "internal/strconv.uint64pow10", "math/bits.deBruijn32tab", "math/bits.deBruijn64tab", "wireloom/syntax.reserved", "wireloom/syntax.operators"], apart := false, laid := [("math/bits.deBruijn32tab", laid_math_bits_deBruijn32tab), ("math/bits.deBruijn64tab", laid_math_bits_deBruijn64tab), ("internal/strconv.uint64pow10", laid_internal_strconv_uint64pow10), ("strconv.ErrRange", laid_strconv_ErrRange), ("strconv.ErrSyntax", laid_strconv_ErrSyntax), ("wireloom/syntax.reserved", laid_wireloom_syntax_reserved), ("wireloom/syntax.operators", laid_wireloom_syntax_operators)], narrowed := true }
def ObjectsMatchesReferenceUptoSaid : Prop := objectsMatchesReferenceUptoRow.holds Tryz.pinned (OpenSpec.upto objectsMatchesReferenceSpec)

/-- 'wireloomlaw18.ObjectsAddresses', WHERE WHAT IT READS IS OF BULK AT MOST 1048576: true; the input reads as it did. -/
def objectsAddressesUptoRow : OpenClaim := { program := "ytanhehbfbakdcaagreatdoor", sum := "7d894e8b06185e4bb1a4c4a992d09651c745e7eee287211d8f5070c077127ee7", func := "wireloom/wireloomlaw18.ObjectsAddresses", spec := "objectsAddresses", inPlace := ["slices.overlaps[wireloom/api.Object]", "internal/bytealg.IndexByteString", "internal/abi.NoEscape"], unfollowed := true, recurses := true, named := ["strconv.ErrSyntax", "strconv.ErrRange", "internal/strconv.uint64pow10", "math/bits.deBruijn32tab", "math/bits.deBruijn64tab", "wireloom/syntax.reserved", "wireloom/syntax.operators"], apart := false, laid := [("math/bits.deBruijn32tab", laid_math_bits_deBruijn32tab), ("math/bits.deBruijn64tab", laid_math_bits_deBruijn64tab), ("internal/strconv.uint64pow10", laid_internal_strconv_uint64pow10), ("strconv.ErrRange", laid_strconv_ErrRange), ("strconv.ErrSyntax", laid_strconv_ErrSyntax), ("wireloom/syntax.reserved", laid_wireloom_syntax_reserved), ("wireloom/syntax.operators", laid_wireloom_syntax_operators)], narrowed := true }
def ObjectsAddressesUptoSaid : Prop := objectsAddressesUptoRow.holds Tryz.pinned (OpenSpec.upto objectsAddressesSpec)

/-- 'wireloomlaw18.ObjectsDamage', WHERE WHAT IT READS IS OF BULK AT MOST 1048576: true; the input reads as it did. -/
def objectsDamageUptoRow : OpenClaim := { program := "ytanhehbfbakdcaagreatdoor", sum := "7d894e8b06185e4bb1a4c4a992d09651c745e7eee287211d8f5070c077127ee7", func := "wireloom/wireloomlaw18.ObjectsDamage", spec := "objectsDamage", inPlace := ["slices.overlaps[wireloom/api.Object]", "internal/bytealg.IndexByteString", "internal/abi.NoEscape"], unfollowed := true, recurses := true, named := ["strconv.ErrSyntax", "strconv.ErrRange", "internal/strconv.uint64pow10", "math/bits.deBruijn32tab", "math/bits.deBruijn64tab", "wireloom/syntax.reserved", "wireloom/syntax.operators"], apart := false, laid := [("math/bits.deBruijn32tab", laid_math_bits_deBruijn32tab), ("math/bits.deBruijn64tab", laid_math_bits_deBruijn64tab), ("internal/strconv.uint64pow10", laid_internal_strconv_uint64pow10), ("strconv.ErrRange", laid_strconv_ErrRange), ("strconv.ErrSyntax", laid_strconv_ErrSyntax), ("wireloom/syntax.reserved", laid_wireloom_syntax_reserved), ("wireloom/syntax.operators", laid_wireloom_syntax_operators)], narrowed := true }
def ObjectsDamageUptoSaid : Prop := objectsDamageUptoRow.holds Tryz.pinned (OpenSpec.upto objectsDamageSpec)

/-- 'wireloomlaw18.ObjectsUnion', WHERE WHAT IT READS IS OF BULK AT MOST 1048576: true; the input reads as it did. -/
def objectsUnionUptoRow : OpenClaim := { program := "ytanhehbfbakdcaagreatdoor", sum := "7d894e8b06185e4bb1a4c4a992d09651c745e7eee287211d8f5070c077127ee7", func := "wireloom/wireloomlaw18.ObjectsUnion", spec := "objectsUnion", inPlace := ["slices.overlaps[wireloom/api.Object]", "internal/bytealg.IndexByteString", "internal/abi.NoEscape"], unfollowed := true, recurses := true, named := ["strconv.ErrSyntax", "strconv.ErrRange", "internal/strconv.uint64pow10", "math/bits.deBruijn32tab", "math/bits.deBruijn64tab", "wireloom/syntax.reserved", "wireloom/syntax.operators"], apart := false, laid := [("math/bits.deBruijn32tab", laid_math_bits_deBruijn32tab), ("math/bits.deBruijn64tab", laid_math_bits_deBruijn64tab), ("internal/strconv.uint64pow10", laid_internal_strconv_uint64pow10), ("strconv.ErrRange", laid_strconv_ErrRange), ("strconv.ErrSyntax", laid_strconv_ErrSyntax), ("wireloom/syntax.reserved", laid_wireloom_syntax_reserved), ("wireloom/syntax.operators", laid_wireloom_syntax_operators)], narrowed := true }
def ObjectsUnionUptoSaid : Prop := objectsUnionUptoRow.holds Tryz.pinned (OpenSpec.upto objectsUnionSpec)

/-- 'wireloomlaw18.ObjectsKeep', WHERE WHAT IT READS IS OF BULK AT MOST 1048576: true; the input reads as it did. -/
def objectsKeepUptoRow : OpenClaim := { program := "ytanhehbfbakdcaagreatdoor", sum := "7d894e8b06185e4bb1a4c4a992d09651c745e7eee287211d8f5070c077127ee7", func := "wireloom/wireloomlaw18.ObjectsKeep", spec := "objectsKeep", inPlace := ["slices.overlaps[wireloom/api.Object]", "internal/bytealg.IndexByteString", "internal/abi.NoEscape"], unfollowed := true, recurses := true, named := ["strconv.ErrSyntax", "strconv.ErrRange", "internal/strconv.uint64pow10", "math/bits.deBruijn32tab", "math/bits.deBruijn64tab", "wireloom/syntax.reserved", "wireloom/syntax.operators"], apart := false, laid := [("math/bits.deBruijn32tab", laid_math_bits_deBruijn32tab), ("math/bits.deBruijn64tab", laid_math_bits_deBruijn64tab), ("internal/strconv.uint64pow10", laid_internal_strconv_uint64pow10), ("strconv.ErrRange", laid_strconv_ErrRange), ("strconv.ErrSyntax", laid_strconv_ErrSyntax), ("wireloom/syntax.reserved", laid_wireloom_syntax_reserved), ("wireloom/syntax.operators", laid_wireloom_syntax_operators)], narrowed := true }
def ObjectsKeepUptoSaid : Prop := objectsKeepUptoRow.holds Tryz.pinned (OpenSpec.upto objectsKeepSpec)

/-- 'wireloomlaw18.ObjectsFiles', WHERE WHAT IT READS IS OF BULK AT MOST 1048576: true; the input reads as it did. -/
def objectsFilesUptoRow : OpenClaim := { program := "ytanhehbfbakdcaagreatdoor", sum := "7d894e8b06185e4bb1a4c4a992d09651c745e7eee287211d8f5070c077127ee7", func := "wireloom/wireloomlaw18.ObjectsFiles", spec := "objectsFiles", inPlace := ["slices.overlaps[wireloom/api.Object]", "internal/bytealg.IndexByteString", "internal/abi.NoEscape"], unfollowed := true, recurses := true, named := ["strconv.ErrSyntax", "strconv.ErrRange", "internal/strconv.uint64pow10", "math/bits.deBruijn32tab", "math/bits.deBruijn64tab", "wireloom/syntax.reserved", "wireloom/syntax.operators"], apart := false, laid := [("math/bits.deBruijn32tab", laid_math_bits_deBruijn32tab), ("math/bits.deBruijn64tab", laid_math_bits_deBruijn64tab), ("internal/strconv.uint64pow10", laid_internal_strconv_uint64pow10), ("strconv.ErrRange", laid_strconv_ErrRange), ("strconv.ErrSyntax", laid_strconv_ErrSyntax), ("wireloom/syntax.reserved", laid_wireloom_syntax_reserved), ("wireloom/syntax.operators", laid_wireloom_syntax_operators)], narrowed := true }
def ObjectsFilesUptoSaid : Prop := objectsFilesUptoRow.holds Tryz.pinned (OpenSpec.upto objectsFilesSpec)

end Rows
end Go.Proofs.YtanhehbfbakdcaaGreatDoor
