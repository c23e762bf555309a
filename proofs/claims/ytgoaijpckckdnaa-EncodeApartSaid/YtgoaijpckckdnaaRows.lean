/-
  No cell of these rows narrows 'for every input' (looked for: loops, veiled, ifaces, maps, wideKeys, modest, calm, conditions, laid).
  DERIVED. THE GIVEN ROWS OF THIS SEAT. 13 by the template 'for every input the law returns true; each argument reads behind the call as it read before'; 0 by the template 'total and deterministic' (their statements: YtgoaijpckckdnaaTotals.lean).
  GIVEN WITH THE SEED: the statements are not yours to turn. If you find one false, say at which input.
  Laid BY PROGRAM, IN A SANDBOX (cutbox-rows.mjs): the forced cells as the released guide's own fill.sh prints them over the translation 2b144b49ebb2ab9b… (all of the seat's roots in one cut). By AI agents, Wed Nov 11 2026. No macro, syntax, notation, axiom, sorry.
-/
import Derived.Test.YtgoaijpckckdnaaChecked
import GoSem.Claim
import GoSem.ClaimJoined
import GoSem.ClaimMapViews
import Derived.JoinedTies
import Derived.KernelRfl
namespace Go.Proofs.Ytgoaijpckckdnaa
/- THE CELL 'sum', in the pinned program and in every row, IS THE sha256 OF THE DUMP (.gsa) THAT YtgoaijpckckdnaaProg.lean LOADS. Nothing in Lean hashes anything: it is a label: what it is worth is what the hold of that sum in a sandbox is worth. -/
noncomputable def Try.pinned : Pinned := { name := "ytgoaijpckckdnaa", sum := "2b144b49ebb2ab9b6097608d1759251bc37d4bd5009c254abb3c48d44b71f2aa", checked := Try.checked }
namespace Rows
def none {H : Type} : Left H := { results := [], args := [] }

/-- 'rescriptlaw06.SkipReads': WHATEVER THE INPUT: true; the input reads as it did. -/
def skipReadsSpec : ChangeSpec := { name := "skipReads", fn := fun _ => fun
  | [d] => { results := [.lit (.bool true)], args := [d] }
  | _ => none }
def skipReadsRow : OpenClaim := { program := "ytgoaijpckckdnaa", sum := "2b144b49ebb2ab9b6097608d1759251bc37d4bd5009c254abb3c48d44b71f2aa", func := "rescript/rescriptlaw06.SkipReads", spec := "skipReads", unfollowed := true, recurses := true, apart := false }
def SkipReadsSaid : Prop := skipReadsRow.holds Try.pinned (OpenSpec.ofChange skipReadsSpec)

/-- ITS FALSE NEIGHBOUR: 'it returns false'. Refute it at one input. -/
def skipReadsWrong : ChangeSpec := { name := "skipReads", fn := fun _ => fun
  | [d] => { results := [.lit (.bool false)], args := [d] }
  | _ => none }
def SkipReadsWrongFalsely : Prop := skipReadsRow.holds Try.pinned (OpenSpec.ofChange skipReadsWrong)

/-- 'rescriptlaw06.SkipEnds': WHATEVER THE INPUT: true; the input reads as it did. -/
def skipEndsSpec : ChangeSpec := { name := "skipEnds", fn := fun _ => fun
  | [d1, d2] => { results := [.lit (.bool true)], args := [d1, d2] }
  | _ => none }
def skipEndsRow : OpenClaim := { program := "ytgoaijpckckdnaa", sum := "2b144b49ebb2ab9b6097608d1759251bc37d4bd5009c254abb3c48d44b71f2aa", func := "rescript/rescriptlaw06.SkipEnds", spec := "skipEnds", unfollowed := true, recurses := true, apart := false }
def SkipEndsSaid : Prop := skipEndsRow.holds Try.pinned (OpenSpec.ofChange skipEndsSpec)

/-- ITS FALSE NEIGHBOUR: 'it returns false'. Refute it at one input. -/
def skipEndsWrong : ChangeSpec := { name := "skipEnds", fn := fun _ => fun
  | [d1, d2] => { results := [.lit (.bool false)], args := [d1, d2] }
  | _ => none }
def SkipEndsWrongFalsely : Prop := skipEndsRow.holds Try.pinned (OpenSpec.ofChange skipEndsWrong)

/-- 'rescriptlaw06.SkipPuts': WHATEVER THE INPUT: true; the input reads as it did. -/
def skipPutsSpec : ChangeSpec := { name := "skipPuts", fn := fun _ => fun
  | [d] => { results := [.lit (.bool true)], args := [d] }
  | _ => none }
def skipPutsRow : OpenClaim := { program := "ytgoaijpckckdnaa", sum := "2b144b49ebb2ab9b6097608d1759251bc37d4bd5009c254abb3c48d44b71f2aa", func := "rescript/rescriptlaw06.SkipPuts", spec := "skipPuts", unfollowed := true, recurses := true, apart := false }
def SkipPutsSaid : Prop := skipPutsRow.holds Try.pinned (OpenSpec.ofChange skipPutsSpec)

/-- ITS FALSE NEIGHBOUR: 'it returns false'. Refute it at one input. -/
def skipPutsWrong : ChangeSpec := { name := "skipPuts", fn := fun _ => fun
  | [d] => { results := [.lit (.bool false)], args := [d] }
  | _ => none }
def SkipPutsWrongFalsely : Prop := skipPutsRow.holds Try.pinned (OpenSpec.ofChange skipPutsWrong)

/-- 'rescriptlaw06.SkipAgain': WHATEVER THE INPUT: true; the input reads as it did. -/
def skipAgainSpec : ChangeSpec := { name := "skipAgain", fn := fun _ => fun
  | [d] => { results := [.lit (.bool true)], args := [d] }
  | _ => none }
def skipAgainRow : OpenClaim := { program := "ytgoaijpckckdnaa", sum := "2b144b49ebb2ab9b6097608d1759251bc37d4bd5009c254abb3c48d44b71f2aa", func := "rescript/rescriptlaw06.SkipAgain", spec := "skipAgain", unfollowed := true, recurses := true, apart := false }
def SkipAgainSaid : Prop := skipAgainRow.holds Try.pinned (OpenSpec.ofChange skipAgainSpec)

/-- ITS FALSE NEIGHBOUR: 'it returns false'. Refute it at one input. -/
def skipAgainWrong : ChangeSpec := { name := "skipAgain", fn := fun _ => fun
  | [d] => { results := [.lit (.bool false)], args := [d] }
  | _ => none }
def SkipAgainWrongFalsely : Prop := skipAgainRow.holds Try.pinned (OpenSpec.ofChange skipAgainWrong)

/-- 'rescriptlaw06.SkipChooses': WHATEVER THE INPUT: true; the input reads as it did. -/
def skipChoosesSpec : ChangeSpec := { name := "skipChooses", fn := fun _ => fun
  | [d1, d2, d3] => { results := [.lit (.bool true)], args := [d1, d2, d3] }
  | _ => none }
def skipChoosesRow : OpenClaim := { program := "ytgoaijpckckdnaa", sum := "2b144b49ebb2ab9b6097608d1759251bc37d4bd5009c254abb3c48d44b71f2aa", func := "rescript/rescriptlaw06.SkipChooses", spec := "skipChooses", unfollowed := true, recurses := true, apart := false }
def SkipChoosesSaid : Prop := skipChoosesRow.holds Try.pinned (OpenSpec.ofChange skipChoosesSpec)

/-- ITS FALSE NEIGHBOUR: 'it returns false'. Refute it at one input. -/
def skipChoosesWrong : ChangeSpec := { name := "skipChooses", fn := fun _ => fun
  | [d1, d2, d3] => { results := [.lit (.bool false)], args := [d1, d2, d3] }
  | _ => none }
def SkipChoosesWrongFalsely : Prop := skipChoosesRow.holds Try.pinned (OpenSpec.ofChange skipChoosesWrong)

/-- 'rescriptlaw10.EncodeBytes': WHATEVER THE INPUT: true; the input reads as it did. -/
def encodeBytesSpec : ChangeSpec := { name := "encodeBytes", fn := fun _ => fun
  | [d1, d2] => { results := [.lit (.bool true)], args := [d1, d2] }
  | _ => none }
def encodeBytesRow : OpenClaim := { program := "ytgoaijpckckdnaa", sum := "2b144b49ebb2ab9b6097608d1759251bc37d4bd5009c254abb3c48d44b71f2aa", func := "rescript/rescriptlaw10.EncodeBytes", spec := "encodeBytes", unfollowed := true, recurses := true, apart := false }
def EncodeBytesSaid : Prop := encodeBytesRow.holds Try.pinned (OpenSpec.ofChange encodeBytesSpec)

/-- ITS FALSE NEIGHBOUR: 'it returns false'. Refute it at one input. -/
def encodeBytesWrong : ChangeSpec := { name := "encodeBytes", fn := fun _ => fun
  | [d1, d2] => { results := [.lit (.bool false)], args := [d1, d2] }
  | _ => none }
def EncodeBytesWrongFalsely : Prop := encodeBytesRow.holds Try.pinned (OpenSpec.ofChange encodeBytesWrong)

/-- 'rescriptlaw10.EncodeFields': WHATEVER THE INPUT: true; the input reads as it did. -/
def encodeFieldsSpec : ChangeSpec := { name := "encodeFields", fn := fun _ => fun
  | [d1, d2] => { results := [.lit (.bool true)], args := [d1, d2] }
  | _ => none }
def encodeFieldsRow : OpenClaim := { program := "ytgoaijpckckdnaa", sum := "2b144b49ebb2ab9b6097608d1759251bc37d4bd5009c254abb3c48d44b71f2aa", func := "rescript/rescriptlaw10.EncodeFields", spec := "encodeFields", unfollowed := true, recurses := true, apart := false }
def EncodeFieldsSaid : Prop := encodeFieldsRow.holds Try.pinned (OpenSpec.ofChange encodeFieldsSpec)

/-- ITS FALSE NEIGHBOUR: 'it returns false'. Refute it at one input. -/
def encodeFieldsWrong : ChangeSpec := { name := "encodeFields", fn := fun _ => fun
  | [d1, d2] => { results := [.lit (.bool false)], args := [d1, d2] }
  | _ => none }
def EncodeFieldsWrongFalsely : Prop := encodeFieldsRow.holds Try.pinned (OpenSpec.ofChange encodeFieldsWrong)

/-- 'rescriptlaw10.EncodeApart': WHATEVER THE INPUT: true; the input reads as it did. -/
def encodeApartSpec : ChangeSpec := { name := "encodeApart", fn := fun _ => fun
  | [d1, d2, d3] => { results := [.lit (.bool true)], args := [d1, d2, d3] }
  | _ => none }
def encodeApartRow : OpenClaim := { program := "ytgoaijpckckdnaa", sum := "2b144b49ebb2ab9b6097608d1759251bc37d4bd5009c254abb3c48d44b71f2aa", func := "rescript/rescriptlaw10.EncodeApart", spec := "encodeApart", unfollowed := true, recurses := true, apart := false }
def EncodeApartSaid : Prop := encodeApartRow.holds Try.pinned (OpenSpec.ofChange encodeApartSpec)

/-- ITS FALSE NEIGHBOUR: 'it returns false'. Refute it at one input. -/
def encodeApartWrong : ChangeSpec := { name := "encodeApart", fn := fun _ => fun
  | [d1, d2, d3] => { results := [.lit (.bool false)], args := [d1, d2, d3] }
  | _ => none }
def EncodeApartWrongFalsely : Prop := encodeApartRow.holds Try.pinned (OpenSpec.ofChange encodeApartWrong)

/-- 'rescriptlaw10.EncodeSmall': WHATEVER THE INPUT: true; the input reads as it did. -/
def encodeSmallSpec : ChangeSpec := { name := "encodeSmall", fn := fun _ => fun
  | [d1, d2] => { results := [.lit (.bool true)], args := [d1, d2] }
  | _ => none }
def encodeSmallRow : OpenClaim := { program := "ytgoaijpckckdnaa", sum := "2b144b49ebb2ab9b6097608d1759251bc37d4bd5009c254abb3c48d44b71f2aa", func := "rescript/rescriptlaw10.EncodeSmall", spec := "encodeSmall", unfollowed := true, recurses := true, apart := false }
def EncodeSmallSaid : Prop := encodeSmallRow.holds Try.pinned (OpenSpec.ofChange encodeSmallSpec)

/-- ITS FALSE NEIGHBOUR: 'it returns false'. Refute it at one input. -/
def encodeSmallWrong : ChangeSpec := { name := "encodeSmall", fn := fun _ => fun
  | [d1, d2] => { results := [.lit (.bool false)], args := [d1, d2] }
  | _ => none }
def EncodeSmallWrongFalsely : Prop := encodeSmallRow.holds Try.pinned (OpenSpec.ofChange encodeSmallWrong)

/-- 'rescripttop.WholePut': WHATEVER THE INPUT: true; the input reads as it did. -/
def wholePutSpec : ChangeSpec := { name := "wholePut", fn := fun _ => fun
  | [d1, d2] => { results := [.lit (.bool true)], args := [d1, d2] }
  | _ => none }
def wholePutRow : OpenClaim := { program := "ytgoaijpckckdnaa", sum := "2b144b49ebb2ab9b6097608d1759251bc37d4bd5009c254abb3c48d44b71f2aa", func := "rescript/rescripttop.WholePut", spec := "wholePut", unfollowed := true, recurses := true, apart := false }
def WholePutSaid : Prop := wholePutRow.holds Try.pinned (OpenSpec.ofChange wholePutSpec)

/-- ITS FALSE NEIGHBOUR: 'it returns false'. Refute it at one input. -/
def wholePutWrong : ChangeSpec := { name := "wholePut", fn := fun _ => fun
  | [d1, d2] => { results := [.lit (.bool false)], args := [d1, d2] }
  | _ => none }
def WholePutWrongFalsely : Prop := wholePutRow.holds Try.pinned (OpenSpec.ofChange wholePutWrong)

/-- 'rescripttop.WholeSealed': WHATEVER THE INPUT: true; the input reads as it did. -/
def wholeSealedSpec : ChangeSpec := { name := "wholeSealed", fn := fun _ => fun
  | [d1, d2, d3] => { results := [.lit (.bool true)], args := [d1, d2, d3] }
  | _ => none }
def wholeSealedRow : OpenClaim := { program := "ytgoaijpckckdnaa", sum := "2b144b49ebb2ab9b6097608d1759251bc37d4bd5009c254abb3c48d44b71f2aa", func := "rescript/rescripttop.WholeSealed", spec := "wholeSealed", unfollowed := true, recurses := true, apart := false }
def WholeSealedSaid : Prop := wholeSealedRow.holds Try.pinned (OpenSpec.ofChange wholeSealedSpec)

/-- ITS FALSE NEIGHBOUR: 'it returns false'. Refute it at one input. -/
def wholeSealedWrong : ChangeSpec := { name := "wholeSealed", fn := fun _ => fun
  | [d1, d2, d3] => { results := [.lit (.bool false)], args := [d1, d2, d3] }
  | _ => none }
def WholeSealedWrongFalsely : Prop := wholeSealedRow.holds Try.pinned (OpenSpec.ofChange wholeSealedWrong)

/-- 'rescripttop.WholeParts': WHATEVER THE INPUT: true; the input reads as it did. -/
def wholePartsSpec : ChangeSpec := { name := "wholeParts", fn := fun _ => fun
  | [d1, d2] => { results := [.lit (.bool true)], args := [d1, d2] }
  | _ => none }
def wholePartsRow : OpenClaim := { program := "ytgoaijpckckdnaa", sum := "2b144b49ebb2ab9b6097608d1759251bc37d4bd5009c254abb3c48d44b71f2aa", func := "rescript/rescripttop.WholeParts", spec := "wholeParts", unfollowed := true, recurses := true, apart := false }
def WholePartsSaid : Prop := wholePartsRow.holds Try.pinned (OpenSpec.ofChange wholePartsSpec)

/-- ITS FALSE NEIGHBOUR: 'it returns false'. Refute it at one input. -/
def wholePartsWrong : ChangeSpec := { name := "wholeParts", fn := fun _ => fun
  | [d1, d2] => { results := [.lit (.bool false)], args := [d1, d2] }
  | _ => none }
def WholePartsWrongFalsely : Prop := wholePartsRow.holds Try.pinned (OpenSpec.ofChange wholePartsWrong)

/-- 'rescripttop.WholeTypes': WHATEVER THE INPUT: true; the input reads as it did. -/
def wholeTypesSpec : ChangeSpec := { name := "wholeTypes", fn := fun _ => fun
  | [d1, d2, d3, d4] => { results := [.lit (.bool true)], args := [d1, d2, d3, d4] }
  | _ => none }
def wholeTypesRow : OpenClaim := { program := "ytgoaijpckckdnaa", sum := "2b144b49ebb2ab9b6097608d1759251bc37d4bd5009c254abb3c48d44b71f2aa", func := "rescript/rescripttop.WholeTypes", spec := "wholeTypes", unfollowed := true, recurses := true, apart := false }
def WholeTypesSaid : Prop := wholeTypesRow.holds Try.pinned (OpenSpec.ofChange wholeTypesSpec)

/-- ITS FALSE NEIGHBOUR: 'it returns false'. Refute it at one input. -/
def wholeTypesWrong : ChangeSpec := { name := "wholeTypes", fn := fun _ => fun
  | [d1, d2, d3, d4] => { results := [.lit (.bool false)], args := [d1, d2, d3, d4] }
  | _ => none }
def WholeTypesWrongFalsely : Prop := wholeTypesRow.holds Try.pinned (OpenSpec.ofChange wholeTypesWrong)

/- THE SECOND FORM. 'bulk': how many values and letters a reading holds, each counted each time it is reached (what is shared counts as often as it is met; a slice's spare places count too). A statement '..UptoSaid' is the law's where the arguments, and the package variables that the reading takes, are together of bulk at most 1048576: NARROWER than '..Said'. Prove '..Said' where nothing that the law and all that it calls make is longer than what came in: it says more and counts as full. Else prove '..UptoSaid'. A law counts once. -/
mutual
def uptoBulk {H : Type} : DataW H → Nat
  | .lit (.string bytes) => bytes.length + 1
  | .lit _ => 1
  | .nil => 1
  | .ptr d => uptoBulk d + 1
  | .slice elems spare => uptoBulkAll elems + uptoBulkAll spare + 1
  | .agg parts => uptoBulkAll parts + 1
  | .iface _ d => uptoBulk d + 1
  | .map entries => uptoBulkEntries entries + 1
  | .held _ => 1
def uptoBulkAll {H : Type} : List (DataW H) → Nat
  | [] => 0
  | d :: r => uptoBulk d + uptoBulkAll r
def uptoBulkEntries {H : Type} : List (Lit × DataW H) → Nat
  | [] => 0
  | x :: r => uptoBulkEntry x + uptoBulkEntries r
def uptoBulkEntry {H : Type} : Lit × DataW H → Nat
  | (.string bytes, d) => bytes.length + uptoBulk d + 1
  | (_, d) => uptoBulk d + 1
 end
def uptoSmall : (H : Type) → List (DataW H) → Bool := fun _ ds => decide (uptoBulkAll ds ≤ 1048576)
def OpenSpec.upto (s : _root_.Go.ChangeSpec) : _root_.Go.OpenSpec := { _root_.Go.OpenSpec.ofChange s with cond := some uptoSmall }

/-- 'rescriptlaw06.SkipReads', WHERE WHAT IT READS IS OF BULK AT MOST 1048576: true; the input reads as it did. -/
def skipReadsUptoRow : OpenClaim := { program := "ytgoaijpckckdnaa", sum := "2b144b49ebb2ab9b6097608d1759251bc37d4bd5009c254abb3c48d44b71f2aa", func := "rescript/rescriptlaw06.SkipReads", spec := "skipReads", unfollowed := true, recurses := true, apart := false, narrowed := true }
def SkipReadsUptoSaid : Prop := skipReadsUptoRow.holds Try.pinned (OpenSpec.upto skipReadsSpec)

/-- 'rescriptlaw06.SkipEnds', WHERE WHAT IT READS IS OF BULK AT MOST 1048576: true; the input reads as it did. -/
def skipEndsUptoRow : OpenClaim := { program := "ytgoaijpckckdnaa", sum := "2b144b49ebb2ab9b6097608d1759251bc37d4bd5009c254abb3c48d44b71f2aa", func := "rescript/rescriptlaw06.SkipEnds", spec := "skipEnds", unfollowed := true, recurses := true, apart := false, narrowed := true }
def SkipEndsUptoSaid : Prop := skipEndsUptoRow.holds Try.pinned (OpenSpec.upto skipEndsSpec)

/-- 'rescriptlaw06.SkipPuts', WHERE WHAT IT READS IS OF BULK AT MOST 1048576: true; the input reads as it did. -/
def skipPutsUptoRow : OpenClaim := { program := "ytgoaijpckckdnaa", sum := "2b144b49ebb2ab9b6097608d1759251bc37d4bd5009c254abb3c48d44b71f2aa", func := "rescript/rescriptlaw06.SkipPuts", spec := "skipPuts", unfollowed := true, recurses := true, apart := false, narrowed := true }
def SkipPutsUptoSaid : Prop := skipPutsUptoRow.holds Try.pinned (OpenSpec.upto skipPutsSpec)

/-- 'rescriptlaw06.SkipAgain', WHERE WHAT IT READS IS OF BULK AT MOST 1048576: true; the input reads as it did. -/
def skipAgainUptoRow : OpenClaim := { program := "ytgoaijpckckdnaa", sum := "2b144b49ebb2ab9b6097608d1759251bc37d4bd5009c254abb3c48d44b71f2aa", func := "rescript/rescriptlaw06.SkipAgain", spec := "skipAgain", unfollowed := true, recurses := true, apart := false, narrowed := true }
def SkipAgainUptoSaid : Prop := skipAgainUptoRow.holds Try.pinned (OpenSpec.upto skipAgainSpec)

/-- 'rescriptlaw06.SkipChooses', WHERE WHAT IT READS IS OF BULK AT MOST 1048576: true; the input reads as it did. -/
def skipChoosesUptoRow : OpenClaim := { program := "ytgoaijpckckdnaa", sum := "2b144b49ebb2ab9b6097608d1759251bc37d4bd5009c254abb3c48d44b71f2aa", func := "rescript/rescriptlaw06.SkipChooses", spec := "skipChooses", unfollowed := true, recurses := true, apart := false, narrowed := true }
def SkipChoosesUptoSaid : Prop := skipChoosesUptoRow.holds Try.pinned (OpenSpec.upto skipChoosesSpec)

/-- 'rescriptlaw10.EncodeBytes', WHERE WHAT IT READS IS OF BULK AT MOST 1048576: true; the input reads as it did. -/
def encodeBytesUptoRow : OpenClaim := { program := "ytgoaijpckckdnaa", sum := "2b144b49ebb2ab9b6097608d1759251bc37d4bd5009c254abb3c48d44b71f2aa", func := "rescript/rescriptlaw10.EncodeBytes", spec := "encodeBytes", unfollowed := true, recurses := true, apart := false, narrowed := true }
def EncodeBytesUptoSaid : Prop := encodeBytesUptoRow.holds Try.pinned (OpenSpec.upto encodeBytesSpec)

/-- 'rescriptlaw10.EncodeFields', WHERE WHAT IT READS IS OF BULK AT MOST 1048576: true; the input reads as it did. -/
def encodeFieldsUptoRow : OpenClaim := { program := "ytgoaijpckckdnaa", sum := "2b144b49ebb2ab9b6097608d1759251bc37d4bd5009c254abb3c48d44b71f2aa", func := "rescript/rescriptlaw10.EncodeFields", spec := "encodeFields", unfollowed := true, recurses := true, apart := false, narrowed := true }
def EncodeFieldsUptoSaid : Prop := encodeFieldsUptoRow.holds Try.pinned (OpenSpec.upto encodeFieldsSpec)

/-- 'rescriptlaw10.EncodeApart', WHERE WHAT IT READS IS OF BULK AT MOST 1048576: true; the input reads as it did. -/
def encodeApartUptoRow : OpenClaim := { program := "ytgoaijpckckdnaa", sum := "2b144b49ebb2ab9b6097608d1759251bc37d4bd5009c254abb3c48d44b71f2aa", func := "rescript/rescriptlaw10.EncodeApart", spec := "encodeApart", unfollowed := true, recurses := true, apart := false, narrowed := true }
def EncodeApartUptoSaid : Prop := encodeApartUptoRow.holds Try.pinned (OpenSpec.upto encodeApartSpec)

/-- 'rescriptlaw10.EncodeSmall', WHERE WHAT IT READS IS OF BULK AT MOST 1048576: true; the input reads as it did. -/
def encodeSmallUptoRow : OpenClaim := { program := "ytgoaijpckckdnaa", sum := "2b144b49ebb2ab9b6097608d1759251bc37d4bd5009c254abb3c48d44b71f2aa", func := "rescript/rescriptlaw10.EncodeSmall", spec := "encodeSmall", unfollowed := true, recurses := true, apart := false, narrowed := true }
def EncodeSmallUptoSaid : Prop := encodeSmallUptoRow.holds Try.pinned (OpenSpec.upto encodeSmallSpec)

/-- 'rescripttop.WholePut', WHERE WHAT IT READS IS OF BULK AT MOST 1048576: true; the input reads as it did. -/
def wholePutUptoRow : OpenClaim := { program := "ytgoaijpckckdnaa", sum := "2b144b49ebb2ab9b6097608d1759251bc37d4bd5009c254abb3c48d44b71f2aa", func := "rescript/rescripttop.WholePut", spec := "wholePut", unfollowed := true, recurses := true, apart := false, narrowed := true }
def WholePutUptoSaid : Prop := wholePutUptoRow.holds Try.pinned (OpenSpec.upto wholePutSpec)

/-- 'rescripttop.WholeSealed', WHERE WHAT IT READS IS OF BULK AT MOST 1048576: true; the input reads as it did. -/
def wholeSealedUptoRow : OpenClaim := { program := "ytgoaijpckckdnaa", sum := "2b144b49ebb2ab9b6097608d1759251bc37d4bd5009c254abb3c48d44b71f2aa", func := "rescript/rescripttop.WholeSealed", spec := "wholeSealed", unfollowed := true, recurses := true, apart := false, narrowed := true }
def WholeSealedUptoSaid : Prop := wholeSealedUptoRow.holds Try.pinned (OpenSpec.upto wholeSealedSpec)

/-- 'rescripttop.WholeParts', WHERE WHAT IT READS IS OF BULK AT MOST 1048576: true; the input reads as it did. -/
def wholePartsUptoRow : OpenClaim := { program := "ytgoaijpckckdnaa", sum := "2b144b49ebb2ab9b6097608d1759251bc37d4bd5009c254abb3c48d44b71f2aa", func := "rescript/rescripttop.WholeParts", spec := "wholeParts", unfollowed := true, recurses := true, apart := false, narrowed := true }
def WholePartsUptoSaid : Prop := wholePartsUptoRow.holds Try.pinned (OpenSpec.upto wholePartsSpec)

/-- 'rescripttop.WholeTypes', WHERE WHAT IT READS IS OF BULK AT MOST 1048576: true; the input reads as it did. -/
def wholeTypesUptoRow : OpenClaim := { program := "ytgoaijpckckdnaa", sum := "2b144b49ebb2ab9b6097608d1759251bc37d4bd5009c254abb3c48d44b71f2aa", func := "rescript/rescripttop.WholeTypes", spec := "wholeTypes", unfollowed := true, recurses := true, apart := false, narrowed := true }
def WholeTypesUptoSaid : Prop := wholeTypesUptoRow.holds Try.pinned (OpenSpec.upto wholeTypesSpec)

end Rows
end Go.Proofs.Ytgoaijpckckdnaa
