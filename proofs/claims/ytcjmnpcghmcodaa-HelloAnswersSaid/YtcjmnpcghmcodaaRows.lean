/-
  No cell of these rows narrows 'for every input' (looked for: loops, veiled, ifaces, maps, wideKeys, modest, calm, conditions, laid).
  DERIVED. THE GIVEN ROWS OF THIS SEAT. 7 by the template 'for every input the law returns true; each argument reads behind the call as it read before'; 0 by the template 'total and deterministic' (their statements: YtcjmnpcghmcodaaTotals.lean).
  GIVEN WITH THE SEED: the statements are not yours to turn. If you find one false, say at which input.
  Laid BY PROGRAM, IN A SANDBOX (cutbox-rows.mjs): the forced cells as the released guide's own fill.sh prints them over the translation 4bbb57025a846c08… (all of the seat's roots in one cut). By AI agents, Wed Nov 11 2026. No macro, syntax, notation, axiom, sorry.
-/
import Derived.Test.YtcjmnpcghmcodaaChecked
import GoSem.Claim
import GoSem.ClaimJoined
import GoSem.ClaimMapViews
import Derived.JoinedTies
import Derived.KernelRfl
namespace Go.Proofs.Ytcjmnpcghmcodaa
/- THE CELL 'sum', in the pinned program and in every row, IS THE sha256 OF THE DUMP (.gsa) THAT YtcjmnpcghmcodaaProg.lean LOADS. Nothing in Lean hashes anything: it is a label: what it is worth is what the hold of that sum in a sandbox is worth. -/
noncomputable def Try.pinned : Pinned := { name := "ytcjmnpcghmcodaa", sum := "4bbb57025a846c08fc24e252fa2382176d7f1ab1aa75c5a3effaec61d93e855e", checked := Try.checked }
namespace Rows
def none {H : Type} : Left H := { results := [], args := [] }

/-- 'rescriptlaw09.ValueChecks': WHATEVER THE INPUT: true; the input reads as it did. -/
def valueChecksSpec : ChangeSpec := { name := "valueChecks", fn := fun _ => fun
  | [d1, d2] => { results := [.lit (.bool true)], args := [d1, d2] }
  | _ => none }
def valueChecksRow : OpenClaim := { program := "ytcjmnpcghmcodaa", sum := "4bbb57025a846c08fc24e252fa2382176d7f1ab1aa75c5a3effaec61d93e855e", func := "rescript/rescriptlaw09.ValueChecks", spec := "valueChecks", unfollowed := true, recurses := true, apart := false }
def ValueChecksSaid : Prop := valueChecksRow.holds Try.pinned (OpenSpec.ofChange valueChecksSpec)

/-- ITS FALSE NEIGHBOUR: 'it returns false'. Refute it at one input. -/
def valueChecksWrong : ChangeSpec := { name := "valueChecks", fn := fun _ => fun
  | [d1, d2] => { results := [.lit (.bool false)], args := [d1, d2] }
  | _ => none }
def ValueChecksWrongFalsely : Prop := valueChecksRow.holds Try.pinned (OpenSpec.ofChange valueChecksWrong)

/-- 'rescriptlaw09.ValuePlaces': WHATEVER THE INPUT: true; the input reads as it did. -/
def valuePlacesSpec : ChangeSpec := { name := "valuePlaces", fn := fun _ => fun
  | [d1, d2, d3] => { results := [.lit (.bool true)], args := [d1, d2, d3] }
  | _ => none }
def valuePlacesRow : OpenClaim := { program := "ytcjmnpcghmcodaa", sum := "4bbb57025a846c08fc24e252fa2382176d7f1ab1aa75c5a3effaec61d93e855e", func := "rescript/rescriptlaw09.ValuePlaces", spec := "valuePlaces", unfollowed := true, recurses := true, apart := false }
def ValuePlacesSaid : Prop := valuePlacesRow.holds Try.pinned (OpenSpec.ofChange valuePlacesSpec)

/-- ITS FALSE NEIGHBOUR: 'it returns false'. Refute it at one input. -/
def valuePlacesWrong : ChangeSpec := { name := "valuePlaces", fn := fun _ => fun
  | [d1, d2, d3] => { results := [.lit (.bool false)], args := [d1, d2, d3] }
  | _ => none }
def ValuePlacesWrongFalsely : Prop := valuePlacesRow.holds Try.pinned (OpenSpec.ofChange valuePlacesWrong)

/-- 'rescriptlaw09.ValueCopies': WHATEVER THE INPUT: true; the input reads as it did. -/
def valueCopiesSpec : ChangeSpec := { name := "valueCopies", fn := fun _ => fun
  | [d1, d2, d3] => { results := [.lit (.bool true)], args := [d1, d2, d3] }
  | _ => none }
def valueCopiesRow : OpenClaim := { program := "ytcjmnpcghmcodaa", sum := "4bbb57025a846c08fc24e252fa2382176d7f1ab1aa75c5a3effaec61d93e855e", func := "rescript/rescriptlaw09.ValueCopies", spec := "valueCopies", unfollowed := true, recurses := true, apart := false }
def ValueCopiesSaid : Prop := valueCopiesRow.holds Try.pinned (OpenSpec.ofChange valueCopiesSpec)

/-- ITS FALSE NEIGHBOUR: 'it returns false'. Refute it at one input. -/
def valueCopiesWrong : ChangeSpec := { name := "valueCopies", fn := fun _ => fun
  | [d1, d2, d3] => { results := [.lit (.bool false)], args := [d1, d2, d3] }
  | _ => none }
def ValueCopiesWrongFalsely : Prop := valueCopiesRow.holds Try.pinned (OpenSpec.ofChange valueCopiesWrong)

/-- 'rescriptlaw09.ValueGrows': WHATEVER THE INPUT: true; the input reads as it did. -/
def valueGrowsSpec : ChangeSpec := { name := "valueGrows", fn := fun _ => fun
  | [d1, d2, d3] => { results := [.lit (.bool true)], args := [d1, d2, d3] }
  | _ => none }
def valueGrowsRow : OpenClaim := { program := "ytcjmnpcghmcodaa", sum := "4bbb57025a846c08fc24e252fa2382176d7f1ab1aa75c5a3effaec61d93e855e", func := "rescript/rescriptlaw09.ValueGrows", spec := "valueGrows", unfollowed := true, recurses := true, apart := false }
def ValueGrowsSaid : Prop := valueGrowsRow.holds Try.pinned (OpenSpec.ofChange valueGrowsSpec)

/-- ITS FALSE NEIGHBOUR: 'it returns false'. Refute it at one input. -/
def valueGrowsWrong : ChangeSpec := { name := "valueGrows", fn := fun _ => fun
  | [d1, d2, d3] => { results := [.lit (.bool false)], args := [d1, d2, d3] }
  | _ => none }
def ValueGrowsWrongFalsely : Prop := valueGrowsRow.holds Try.pinned (OpenSpec.ofChange valueGrowsWrong)

/-- 'rescriptlaw35.HelloChooses': WHATEVER THE INPUT: true; the input reads as it did. -/
def helloChoosesSpec : ChangeSpec := { name := "helloChooses", fn := fun _ => fun
  | [d1, d2] => { results := [.lit (.bool true)], args := [d1, d2] }
  | _ => none }
def helloChoosesRow : OpenClaim := { program := "ytcjmnpcghmcodaa", sum := "4bbb57025a846c08fc24e252fa2382176d7f1ab1aa75c5a3effaec61d93e855e", func := "rescript/rescriptlaw35.HelloChooses", spec := "helloChooses", unfollowed := true, recurses := true, apart := false }
def HelloChoosesSaid : Prop := helloChoosesRow.holds Try.pinned (OpenSpec.ofChange helloChoosesSpec)

/-- ITS FALSE NEIGHBOUR: 'it returns false'. Refute it at one input. -/
def helloChoosesWrong : ChangeSpec := { name := "helloChooses", fn := fun _ => fun
  | [d1, d2] => { results := [.lit (.bool false)], args := [d1, d2] }
  | _ => none }
def HelloChoosesWrongFalsely : Prop := helloChoosesRow.holds Try.pinned (OpenSpec.ofChange helloChoosesWrong)

/-- 'rescriptlaw35.HelloAnswers': WHATEVER THE INPUT: true; the input reads as it did. -/
def helloAnswersSpec : ChangeSpec := { name := "helloAnswers", fn := fun _ => fun
  | [d1, d2, d3] => { results := [.lit (.bool true)], args := [d1, d2, d3] }
  | _ => none }
def helloAnswersRow : OpenClaim := { program := "ytcjmnpcghmcodaa", sum := "4bbb57025a846c08fc24e252fa2382176d7f1ab1aa75c5a3effaec61d93e855e", func := "rescript/rescriptlaw35.HelloAnswers", spec := "helloAnswers", unfollowed := true, recurses := true, apart := false }
def HelloAnswersSaid : Prop := helloAnswersRow.holds Try.pinned (OpenSpec.ofChange helloAnswersSpec)

/-- ITS FALSE NEIGHBOUR: 'it returns false'. Refute it at one input. -/
def helloAnswersWrong : ChangeSpec := { name := "helloAnswers", fn := fun _ => fun
  | [d1, d2, d3] => { results := [.lit (.bool false)], args := [d1, d2, d3] }
  | _ => none }
def HelloAnswersWrongFalsely : Prop := helloAnswersRow.holds Try.pinned (OpenSpec.ofChange helloAnswersWrong)

/-- 'rescriptlaw35.HelloMeets': WHATEVER THE INPUT: true; the input reads as it did. -/
def helloMeetsSpec : ChangeSpec := { name := "helloMeets", fn := fun _ => fun
  | [d1, d2, d3, d4, d5, d6] => { results := [.lit (.bool true)], args := [d1, d2, d3, d4, d5, d6] }
  | _ => none }
def helloMeetsRow : OpenClaim := { program := "ytcjmnpcghmcodaa", sum := "4bbb57025a846c08fc24e252fa2382176d7f1ab1aa75c5a3effaec61d93e855e", func := "rescript/rescriptlaw35.HelloMeets", spec := "helloMeets", unfollowed := true, recurses := true, apart := false }
def HelloMeetsSaid : Prop := helloMeetsRow.holds Try.pinned (OpenSpec.ofChange helloMeetsSpec)

/-- ITS FALSE NEIGHBOUR: 'it returns false'. Refute it at one input. -/
def helloMeetsWrong : ChangeSpec := { name := "helloMeets", fn := fun _ => fun
  | [d1, d2, d3, d4, d5, d6] => { results := [.lit (.bool false)], args := [d1, d2, d3, d4, d5, d6] }
  | _ => none }
def HelloMeetsWrongFalsely : Prop := helloMeetsRow.holds Try.pinned (OpenSpec.ofChange helloMeetsWrong)

/- THE SECOND FORM. 'bulk': how many values and letters a reading holds, each counted each time it is reached (what is shared counts as often as it is met; a slice's spare places count too). A statement '..UptoSaid' is the law's where the arguments, and the package variables that the reading takes, are together of bulk at most 1048576: NARROWER than '..Said'. Prove '..Said' where nothing that the law and all that it calls make is longer than what came in: it says more and counts as full. Else prove '..UptoSaid'. A law counts once. -/
mutual
def uptoBulk {H : Type} : DataW H → Nat
  | .lit (.string bytes) => bytes.length + 1
  | .lit _ => 1
  | .nil => 1
  | .ptr d => uptoBulk d + 1
  | .slice elems spare => uptoBulkAll elems + uptoBulkAll spare + 1
  | .agg parts => uptoBulkAll parts + 1
  | .iface _ d => uptoBulk d + 1
  | .map entries => uptoBulkEntries entries + 1
  | .held _ => 1
def uptoBulkAll {H : Type} : List (DataW H) → Nat
  | [] => 0
  | d :: r => uptoBulk d + uptoBulkAll r
def uptoBulkEntries {H : Type} : List (Lit × DataW H) → Nat
  | [] => 0
  | x :: r => uptoBulkEntry x + uptoBulkEntries r
def uptoBulkEntry {H : Type} : Lit × DataW H → Nat
  | (.string bytes, d) => bytes.length + uptoBulk d + 1
  | (_, d) => uptoBulk d + 1
 end
def uptoSmall : (H : Type) → List (DataW H) → Bool := fun _ ds => decide (uptoBulkAll ds ≤ 1048576)
def OpenSpec.upto (s : _root_.Go.ChangeSpec) : _root_.Go.OpenSpec := { _root_.Go.OpenSpec.ofChange s with cond := some uptoSmall }

/-- 'rescriptlaw09.ValueChecks', WHERE WHAT IT READS IS OF BULK AT MOST 1048576: true; the input reads as it did. -/
def valueChecksUptoRow : OpenClaim := { program := "ytcjmnpcghmcodaa", sum := "4bbb57025a846c08fc24e252fa2382176d7f1ab1aa75c5a3effaec61d93e855e", func := "rescript/rescriptlaw09.ValueChecks", spec := "valueChecks", unfollowed := true, recurses := true, apart := false, narrowed := true }
def ValueChecksUptoSaid : Prop := valueChecksUptoRow.holds Try.pinned (OpenSpec.upto valueChecksSpec)

/-- 'rescriptlaw09.ValuePlaces', WHERE WHAT IT READS IS OF BULK AT MOST 1048576: true; the input reads as it did. -/
def valuePlacesUptoRow : OpenClaim := { program := "ytcjmnpcghmcodaa", sum := "4bbb57025a846c08fc24e252fa2382176d7f1ab1aa75c5a3effaec61d93e855e", func := "rescript/rescriptlaw09.ValuePlaces", spec := "valuePlaces", unfollowed := true, recurses := true, apart := false, narrowed := true }
def ValuePlacesUptoSaid : Prop := valuePlacesUptoRow.holds Try.pinned (OpenSpec.upto valuePlacesSpec)

/-- 'rescriptlaw09.ValueCopies', WHERE WHAT IT READS IS OF BULK AT MOST 1048576: true; the input reads as it did. -/
def valueCopiesUptoRow : OpenClaim := { program := "ytcjmnpcghmcodaa", sum := "4bbb57025a846c08fc24e252fa2382176d7f1ab1aa75c5a3effaec61d93e855e", func := "rescript/rescriptlaw09.ValueCopies", spec := "valueCopies", unfollowed := true, recurses := true, apart := false, narrowed := true }
def ValueCopiesUptoSaid : Prop := valueCopiesUptoRow.holds Try.pinned (OpenSpec.upto valueCopiesSpec)

/-- 'rescriptlaw09.ValueGrows', WHERE WHAT IT READS IS OF BULK AT MOST 1048576: true; the input reads as it did. -/
def valueGrowsUptoRow : OpenClaim := { program := "ytcjmnpcghmcodaa", sum := "4bbb57025a846c08fc24e252fa2382176d7f1ab1aa75c5a3effaec61d93e855e", func := "rescript/rescriptlaw09.ValueGrows", spec := "valueGrows", unfollowed := true, recurses := true, apart := false, narrowed := true }
def ValueGrowsUptoSaid : Prop := valueGrowsUptoRow.holds Try.pinned (OpenSpec.upto valueGrowsSpec)

/-- 'rescriptlaw35.HelloChooses', WHERE WHAT IT READS IS OF BULK AT MOST 1048576: true; the input reads as it did. -/
def helloChoosesUptoRow : OpenClaim := { program := "ytcjmnpcghmcodaa", sum := "4bbb57025a846c08fc24e252fa2382176d7f1ab1aa75c5a3effaec61d93e855e", func := "rescript/rescriptlaw35.HelloChooses", spec := "helloChooses", unfollowed := true, recurses := true, apart := false, narrowed := true }
def HelloChoosesUptoSaid : Prop := helloChoosesUptoRow.holds Try.pinned (OpenSpec.upto helloChoosesSpec)

/-- 'rescriptlaw35.HelloAnswers', WHERE WHAT IT READS IS OF BULK AT MOST 1048576: true; the input reads as it did. -/
def helloAnswersUptoRow : OpenClaim := { program := "ytcjmnpcghmcodaa", sum := "4bbb57025a846c08fc24e252fa2382176d7f1ab1aa75c5a3effaec61d93e855e", func := "rescript/rescriptlaw35.HelloAnswers", spec := "helloAnswers", unfollowed := true, recurses := true, apart := false, narrowed := true }
def HelloAnswersUptoSaid : Prop := helloAnswersUptoRow.holds Try.pinned (OpenSpec.upto helloAnswersSpec)

/-- 'rescriptlaw35.HelloMeets', WHERE WHAT IT READS IS OF BULK AT MOST 1048576: true; the input reads as it did. -/
def helloMeetsUptoRow : OpenClaim := { program := "ytcjmnpcghmcodaa", sum := "4bbb57025a846c08fc24e252fa2382176d7f1ab1aa75c5a3effaec61d93e855e", func := "rescript/rescriptlaw35.HelloMeets", spec := "helloMeets", unfollowed := true, recurses := true, apart := false, narrowed := true }
def HelloMeetsUptoSaid : Prop := helloMeetsUptoRow.holds Try.pinned (OpenSpec.upto helloMeetsSpec)

end Rows
end Go.Proofs.Ytcjmnpcghmcodaa
