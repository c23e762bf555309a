/-
  No cell of these rows narrows 'for every input' (looked for: loops, veiled, ifaces, maps, wideKeys, modest, calm, conditions, laid).
  DERIVED. THE GIVEN ROWS OF THIS SEAT. 9 by the template 'for every input the law returns true; each argument reads behind the call as it read before'; 0 by the template 'total and deterministic' (their statements: YtbjoohafgkodcaaTotals.lean).
  GIVEN WITH THE SEED: the statements are not yours to turn. If you find one false, say at which input.
  Laid BY PROGRAM, IN A SANDBOX (cutbox-rows.mjs): the forced cells as the released guide's own fill.sh prints them over the translation 986072f4e8c62810… (all of the seat's roots in one cut). By AI agents, Wed Nov 11 2026. No macro, syntax, notation, axiom, sorry.
-/
import Derived.Test.YtbjoohafgkodcaaChecked
import GoSem.Claim
import GoSem.ClaimJoined
import GoSem.ClaimMapViews
import Derived.JoinedTies
import Derived.KernelRfl
namespace Go.Proofs.Ytbjoohafgkodcaa
/- THE CELL 'sum', in the pinned program and in every row, IS THE sha256 OF THE DUMP (.gsa) THAT YtbjoohafgkodcaaProg.lean LOADS. Nothing in Lean hashes anything: it is a label: what it is worth is what the hold of that sum in a sandbox is worth. -/
noncomputable def Try.pinned : Pinned := { name := "ytbjoohafgkodcaa", sum := "986072f4e8c6281004abb276bee22c22633bfdd76492b428057dadbc07d0367d", checked := Try.checked }
namespace Rows
def none {H : Type} : Left H := { results := [], args := [] }

/-- 'rescriptlaw11.LenientReads': WHATEVER THE INPUT: true; the input reads as it did. -/
def lenientReadsSpec : ChangeSpec := { name := "lenientReads", fn := fun _ => fun
  | [d1, d2, d3] => { results := [.lit (.bool true)], args := [d1, d2, d3] }
  | _ => none }
def lenientReadsRow : OpenClaim := { program := "ytbjoohafgkodcaa", sum := "986072f4e8c6281004abb276bee22c22633bfdd76492b428057dadbc07d0367d", func := "rescript/rescriptlaw11.LenientReads", spec := "lenientReads", unfollowed := true, recurses := true, apart := false }
def LenientReadsSaid : Prop := lenientReadsRow.holds Try.pinned (OpenSpec.ofChange lenientReadsSpec)

/-- ITS FALSE NEIGHBOUR: 'it returns false'. Refute it at one input. -/
def lenientReadsWrong : ChangeSpec := { name := "lenientReads", fn := fun _ => fun
  | [d1, d2, d3] => { results := [.lit (.bool false)], args := [d1, d2, d3] }
  | _ => none }
def LenientReadsWrongFalsely : Prop := lenientReadsRow.holds Try.pinned (OpenSpec.ofChange lenientReadsWrong)

/-- 'rescriptlaw11.LenientSets': WHATEVER THE INPUT: true; the input reads as it did. -/
def lenientSetsSpec : ChangeSpec := { name := "lenientSets", fn := fun _ => fun
  | [d1, d2, d3] => { results := [.lit (.bool true)], args := [d1, d2, d3] }
  | _ => none }
def lenientSetsRow : OpenClaim := { program := "ytbjoohafgkodcaa", sum := "986072f4e8c6281004abb276bee22c22633bfdd76492b428057dadbc07d0367d", func := "rescript/rescriptlaw11.LenientSets", spec := "lenientSets", unfollowed := true, recurses := true, apart := false }
def LenientSetsSaid : Prop := lenientSetsRow.holds Try.pinned (OpenSpec.ofChange lenientSetsSpec)

/-- ITS FALSE NEIGHBOUR: 'it returns false'. Refute it at one input. -/
def lenientSetsWrong : ChangeSpec := { name := "lenientSets", fn := fun _ => fun
  | [d1, d2, d3] => { results := [.lit (.bool false)], args := [d1, d2, d3] }
  | _ => none }
def LenientSetsWrongFalsely : Prop := lenientSetsRow.holds Try.pinned (OpenSpec.ofChange lenientSetsWrong)

/-- 'rescriptlaw11.LenientBack': WHATEVER THE INPUT: true; the input reads as it did. -/
def lenientBackSpec : ChangeSpec := { name := "lenientBack", fn := fun _ => fun
  | [d1, d2, d3] => { results := [.lit (.bool true)], args := [d1, d2, d3] }
  | _ => none }
def lenientBackRow : OpenClaim := { program := "ytbjoohafgkodcaa", sum := "986072f4e8c6281004abb276bee22c22633bfdd76492b428057dadbc07d0367d", func := "rescript/rescriptlaw11.LenientBack", spec := "lenientBack", unfollowed := true, recurses := true, apart := false }
def LenientBackSaid : Prop := lenientBackRow.holds Try.pinned (OpenSpec.ofChange lenientBackSpec)

/-- ITS FALSE NEIGHBOUR: 'it returns false'. Refute it at one input. -/
def lenientBackWrong : ChangeSpec := { name := "lenientBack", fn := fun _ => fun
  | [d1, d2, d3] => { results := [.lit (.bool false)], args := [d1, d2, d3] }
  | _ => none }
def LenientBackWrongFalsely : Prop := lenientBackRow.holds Try.pinned (OpenSpec.ofChange lenientBackWrong)

/-- 'rescriptlaw11.LenientLast': WHATEVER THE INPUT: true; the input reads as it did. -/
def lenientLastSpec : ChangeSpec := { name := "lenientLast", fn := fun _ => fun
  | [d1, d2, d3] => { results := [.lit (.bool true)], args := [d1, d2, d3] }
  | _ => none }
def lenientLastRow : OpenClaim := { program := "ytbjoohafgkodcaa", sum := "986072f4e8c6281004abb276bee22c22633bfdd76492b428057dadbc07d0367d", func := "rescript/rescriptlaw11.LenientLast", spec := "lenientLast", unfollowed := true, recurses := true, apart := false }
def LenientLastSaid : Prop := lenientLastRow.holds Try.pinned (OpenSpec.ofChange lenientLastSpec)

/-- ITS FALSE NEIGHBOUR: 'it returns false'. Refute it at one input. -/
def lenientLastWrong : ChangeSpec := { name := "lenientLast", fn := fun _ => fun
  | [d1, d2, d3] => { results := [.lit (.bool false)], args := [d1, d2, d3] }
  | _ => none }
def LenientLastWrongFalsely : Prop := lenientLastRow.holds Try.pinned (OpenSpec.ofChange lenientLastWrong)

/-- 'rescriptlaw12.StrictBack': WHATEVER THE INPUT: true; the input reads as it did. -/
def strictBackSpec : ChangeSpec := { name := "strictBack", fn := fun _ => fun
  | [d1, d2, d3] => { results := [.lit (.bool true)], args := [d1, d2, d3] }
  | _ => none }
def strictBackRow : OpenClaim := { program := "ytbjoohafgkodcaa", sum := "986072f4e8c6281004abb276bee22c22633bfdd76492b428057dadbc07d0367d", func := "rescript/rescriptlaw12.StrictBack", spec := "strictBack", unfollowed := true, recurses := true, apart := false }
def StrictBackSaid : Prop := strictBackRow.holds Try.pinned (OpenSpec.ofChange strictBackSpec)

/-- ITS FALSE NEIGHBOUR: 'it returns false'. Refute it at one input. -/
def strictBackWrong : ChangeSpec := { name := "strictBack", fn := fun _ => fun
  | [d1, d2, d3] => { results := [.lit (.bool false)], args := [d1, d2, d3] }
  | _ => none }
def StrictBackWrongFalsely : Prop := strictBackRow.holds Try.pinned (OpenSpec.ofChange strictBackWrong)

/-- 'rescriptlaw12.StrictWithin': WHATEVER THE INPUT: true; the input reads as it did. -/
def strictWithinSpec : ChangeSpec := { name := "strictWithin", fn := fun _ => fun
  | [d1, d2, d3] => { results := [.lit (.bool true)], args := [d1, d2, d3] }
  | _ => none }
def strictWithinRow : OpenClaim := { program := "ytbjoohafgkodcaa", sum := "986072f4e8c6281004abb276bee22c22633bfdd76492b428057dadbc07d0367d", func := "rescript/rescriptlaw12.StrictWithin", spec := "strictWithin", unfollowed := true, recurses := true, apart := false }
def StrictWithinSaid : Prop := strictWithinRow.holds Try.pinned (OpenSpec.ofChange strictWithinSpec)

/-- ITS FALSE NEIGHBOUR: 'it returns false'. Refute it at one input. -/
def strictWithinWrong : ChangeSpec := { name := "strictWithin", fn := fun _ => fun
  | [d1, d2, d3] => { results := [.lit (.bool false)], args := [d1, d2, d3] }
  | _ => none }
def StrictWithinWrongFalsely : Prop := strictWithinRow.holds Try.pinned (OpenSpec.ofChange strictWithinWrong)

/-- 'rescripttop.WholeVersions': WHATEVER THE INPUT: true; the input reads as it did. -/
def wholeVersionsSpec : ChangeSpec := { name := "wholeVersions", fn := fun _ => fun
  | [d1, d2, d3] => { results := [.lit (.bool true)], args := [d1, d2, d3] }
  | _ => none }
def wholeVersionsRow : OpenClaim := { program := "ytbjoohafgkodcaa", sum := "986072f4e8c6281004abb276bee22c22633bfdd76492b428057dadbc07d0367d", func := "rescript/rescripttop.WholeVersions", spec := "wholeVersions", unfollowed := true, recurses := true, apart := false }
def WholeVersionsSaid : Prop := wholeVersionsRow.holds Try.pinned (OpenSpec.ofChange wholeVersionsSpec)

/-- ITS FALSE NEIGHBOUR: 'it returns false'. Refute it at one input. -/
def wholeVersionsWrong : ChangeSpec := { name := "wholeVersions", fn := fun _ => fun
  | [d1, d2, d3] => { results := [.lit (.bool false)], args := [d1, d2, d3] }
  | _ => none }
def WholeVersionsWrongFalsely : Prop := wholeVersionsRow.holds Try.pinned (OpenSpec.ofChange wholeVersionsWrong)

/-- 'rescripttop.WholeFixed': WHATEVER THE INPUT: true; the input reads as it did. -/
def wholeFixedSpec : ChangeSpec := { name := "wholeFixed", fn := fun _ => fun
  | [d1, d2, d3, d4] => { results := [.lit (.bool true)], args := [d1, d2, d3, d4] }
  | _ => none }
def wholeFixedRow : OpenClaim := { program := "ytbjoohafgkodcaa", sum := "986072f4e8c6281004abb276bee22c22633bfdd76492b428057dadbc07d0367d", func := "rescript/rescripttop.WholeFixed", spec := "wholeFixed", unfollowed := true, recurses := true, apart := false }
def WholeFixedSaid : Prop := wholeFixedRow.holds Try.pinned (OpenSpec.ofChange wholeFixedSpec)

/-- ITS FALSE NEIGHBOUR: 'it returns false'. Refute it at one input. -/
def wholeFixedWrong : ChangeSpec := { name := "wholeFixed", fn := fun _ => fun
  | [d1, d2, d3, d4] => { results := [.lit (.bool false)], args := [d1, d2, d3, d4] }
  | _ => none }
def WholeFixedWrongFalsely : Prop := wholeFixedRow.holds Try.pinned (OpenSpec.ofChange wholeFixedWrong)

/-- 'rescripttop.WholeFields': WHATEVER THE INPUT: true; the input reads as it did. -/
def wholeFieldsSpec : ChangeSpec := { name := "wholeFields", fn := fun _ => fun
  | [d1, d2, d3] => { results := [.lit (.bool true)], args := [d1, d2, d3] }
  | _ => none }
def wholeFieldsRow : OpenClaim := { program := "ytbjoohafgkodcaa", sum := "986072f4e8c6281004abb276bee22c22633bfdd76492b428057dadbc07d0367d", func := "rescript/rescripttop.WholeFields", spec := "wholeFields", unfollowed := true, recurses := true, apart := false }
def WholeFieldsSaid : Prop := wholeFieldsRow.holds Try.pinned (OpenSpec.ofChange wholeFieldsSpec)

/-- ITS FALSE NEIGHBOUR: 'it returns false'. Refute it at one input. -/
def wholeFieldsWrong : ChangeSpec := { name := "wholeFields", fn := fun _ => fun
  | [d1, d2, d3] => { results := [.lit (.bool false)], args := [d1, d2, d3] }
  | _ => none }
def WholeFieldsWrongFalsely : Prop := wholeFieldsRow.holds Try.pinned (OpenSpec.ofChange wholeFieldsWrong)

/- THE SECOND FORM. 'bulk': how many values and letters a reading holds, each counted each time it is reached (what is shared counts as often as it is met; a slice's spare places count too). A statement '..UptoSaid' is the law's where the arguments, and the package variables that the reading takes, are together of bulk at most 1048576: NARROWER than '..Said'. Prove '..Said' where nothing that the law and all that it calls make is longer than what came in: it says more and counts as full. Else prove '..UptoSaid'. A law counts once. -/
mutual
def uptoBulk {H : Type} : DataW H → Nat
  | .lit (.string bytes) => bytes.length + 1
  | .lit _ => 1
  | .nil => 1
  | .ptr d => uptoBulk d + 1
  | .slice elems spare => uptoBulkAll elems + uptoBulkAll spare + 1
  | .agg parts => uptoBulkAll parts + 1
  | .iface _ d => uptoBulk d + 1
  | .map entries => uptoBulkEntries entries + 1
  | .held _ => 1
def uptoBulkAll {H : Type} : List (DataW H) → Nat
  | [] => 0
  | d :: r => uptoBulk d + uptoBulkAll r
def uptoBulkEntries {H : Type} : List (Lit × DataW H) → Nat
  | [] => 0
  | x :: r => uptoBulkEntry x + uptoBulkEntries r
def uptoBulkEntry {H : Type} : Lit × DataW H → Nat
  | (.string bytes, d) => bytes.length + uptoBulk d + 1
  | (_, d) => uptoBulk d + 1
 end
def uptoSmall : (H : Type) → List (DataW H) → Bool := fun _ ds => decide (uptoBulkAll ds ≤ 1048576)
def OpenSpec.upto (s : _root_.Go.ChangeSpec) : _root_.Go.OpenSpec := { _root_.Go.OpenSpec.ofChange s with cond := some uptoSmall }

/-- 'rescriptlaw11.LenientReads', WHERE WHAT IT READS IS OF BULK AT MOST 1048576: true; the input reads as it did. -/
def lenientReadsUptoRow : OpenClaim := { program := "ytbjoohafgkodcaa", sum := "986072f4e8c6281004abb276bee22c22633bfdd76492b428057dadbc07d0367d", func := "rescript/rescriptlaw11.LenientReads", spec := "lenientReads", unfollowed := true, recurses := true, apart := false, narrowed := true }
def LenientReadsUptoSaid : Prop := lenientReadsUptoRow.holds Try.pinned (OpenSpec.upto lenientReadsSpec)

/-- 'rescriptlaw11.LenientSets', WHERE WHAT IT READS IS OF BULK AT MOST 1048576: true; the input reads as it did. -/
def lenientSetsUptoRow : OpenClaim := { program := "ytbjoohafgkodcaa", sum := "986072f4e8c6281004abb276bee22c22633bfdd76492b428057dadbc07d0367d", func := "rescript/rescriptlaw11.LenientSets", spec := "lenientSets", unfollowed := true, recurses := true, apart := false, narrowed := true }
def LenientSetsUptoSaid : Prop := lenientSetsUptoRow.holds Try.pinned (OpenSpec.upto lenientSetsSpec)

/-- 'rescriptlaw11.LenientBack', WHERE WHAT IT READS IS OF BULK AT MOST 1048576: true; the input reads as it did. -/
def lenientBackUptoRow : OpenClaim := { program := "ytbjoohafgkodcaa", sum := "986072f4e8c6281004abb276bee22c22633bfdd76492b428057dadbc07d0367d", func := "rescript/rescriptlaw11.LenientBack", spec := "lenientBack", unfollowed := true, recurses := true, apart := false, narrowed := true }
def LenientBackUptoSaid : Prop := lenientBackUptoRow.holds Try.pinned (OpenSpec.upto lenientBackSpec)

/-- 'rescriptlaw11.LenientLast', WHERE WHAT IT READS IS OF BULK AT MOST 1048576: true; the input reads as it did. -/
def lenientLastUptoRow : OpenClaim := { program := "ytbjoohafgkodcaa", sum := "986072f4e8c6281004abb276bee22c22633bfdd76492b428057dadbc07d0367d", func := "rescript/rescriptlaw11.LenientLast", spec := "lenientLast", unfollowed := true, recurses := true, apart := false, narrowed := true }
def LenientLastUptoSaid : Prop := lenientLastUptoRow.holds Try.pinned (OpenSpec.upto lenientLastSpec)

/-- 'rescriptlaw12.StrictBack', WHERE WHAT IT READS IS OF BULK AT MOST 1048576: true; the input reads as it did. -/
def strictBackUptoRow : OpenClaim := { program := "ytbjoohafgkodcaa", sum := "986072f4e8c6281004abb276bee22c22633bfdd76492b428057dadbc07d0367d", func := "rescript/rescriptlaw12.StrictBack", spec := "strictBack", unfollowed := true, recurses := true, apart := false, narrowed := true }
def StrictBackUptoSaid : Prop := strictBackUptoRow.holds Try.pinned (OpenSpec.upto strictBackSpec)

/-- 'rescriptlaw12.StrictWithin', WHERE WHAT IT READS IS OF BULK AT MOST 1048576: true; the input reads as it did. -/
def strictWithinUptoRow : OpenClaim := { program := "ytbjoohafgkodcaa", sum := "986072f4e8c6281004abb276bee22c22633bfdd76492b428057dadbc07d0367d", func := "rescript/rescriptlaw12.StrictWithin", spec := "strictWithin", unfollowed := true, recurses := true, apart := false, narrowed := true }
def StrictWithinUptoSaid : Prop := strictWithinUptoRow.holds Try.pinned (OpenSpec.upto strictWithinSpec)

/-- 'rescripttop.WholeVersions', WHERE WHAT IT READS IS OF BULK AT MOST 1048576: true; the input reads as it did. -/
def wholeVersionsUptoRow : OpenClaim := { program := "ytbjoohafgkodcaa", sum := "986072f4e8c6281004abb276bee22c22633bfdd76492b428057dadbc07d0367d", func := "rescript/rescripttop.WholeVersions", spec := "wholeVersions", unfollowed := true, recurses := true, apart := false, narrowed := true }
def WholeVersionsUptoSaid : Prop := wholeVersionsUptoRow.holds Try.pinned (OpenSpec.upto wholeVersionsSpec)

/-- 'rescripttop.WholeFixed', WHERE WHAT IT READS IS OF BULK AT MOST 1048576: true; the input reads as it did. -/
def wholeFixedUptoRow : OpenClaim := { program := "ytbjoohafgkodcaa", sum := "986072f4e8c6281004abb276bee22c22633bfdd76492b428057dadbc07d0367d", func := "rescript/rescripttop.WholeFixed", spec := "wholeFixed", unfollowed := true, recurses := true, apart := false, narrowed := true }
def WholeFixedUptoSaid : Prop := wholeFixedUptoRow.holds Try.pinned (OpenSpec.upto wholeFixedSpec)

/-- 'rescripttop.WholeFields', WHERE WHAT IT READS IS OF BULK AT MOST 1048576: true; the input reads as it did. -/
def wholeFieldsUptoRow : OpenClaim := { program := "ytbjoohafgkodcaa", sum := "986072f4e8c6281004abb276bee22c22633bfdd76492b428057dadbc07d0367d", func := "rescript/rescripttop.WholeFields", spec := "wholeFields", unfollowed := true, recurses := true, apart := false, narrowed := true }
def WholeFieldsUptoSaid : Prop := wholeFieldsUptoRow.holds Try.pinned (OpenSpec.upto wholeFieldsSpec)

end Rows
end Go.Proofs.Ytbjoohafgkodcaa
