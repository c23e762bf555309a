/-
  No cell of these rows narrows 'for every input' (looked for: loops, veiled, ifaces, maps, wideKeys, modest, calm, conditions, laid).
  DERIVED. THE GIVEN ROWS OF THIS SEAT. 7 by the template 'for every input the law returns true; each argument reads behind the call as it read before'; 0 by the template 'total and deterministic' (their statements: YtoinndlialimcaaTotals.lean).
  GIVEN WITH THE SEED: the statements are not yours to turn. If you find one false, say at which input.
  Laid BY PROGRAM, IN A SANDBOX (cutbox-rows.mjs): the forced cells as the released guide's own fill.sh prints them over the translation f21ff742804183ac… (all of the seat's roots in one cut). By AI agents, Wed Nov 11 2026. No macro, syntax, notation, axiom, sorry.
-/
import Derived.Test.YtoinndlialimcaaChecked
import GoSem.Claim
import GoSem.ClaimJoined
import GoSem.ClaimMapViews
import Derived.JoinedTies
import Derived.KernelRfl
namespace Go.Proofs.Ytoinndlialimcaa
/- THE CELL 'sum', in the pinned program and in every row, IS THE sha256 OF THE DUMP (.gsa) THAT YtoinndlialimcaaProg.lean LOADS. Nothing in Lean hashes anything: it is a label: what it is worth is what the hold of that sum in a sandbox is worth. -/
noncomputable def Try.pinned : Pinned := { name := "ytoinndlialimcaa", sum := "f21ff742804183ace511ed48d4b362b76143aeb39dd2b49aa669dd3df10e8bb2", checked := Try.checked }
namespace Rows
def none {H : Type} : Left H := { results := [], args := [] }

/-- 'rescriptlaw16.StreamDoes': WHATEVER THE INPUT: true; the input reads as it did. -/
def streamDoesSpec : ChangeSpec := { name := "streamDoes", fn := fun _ => fun
  | [d1, d2] => { results := [.lit (.bool true)], args := [d1, d2] }
  | _ => none }
def streamDoesRow : OpenClaim := { program := "ytoinndlialimcaa", sum := "f21ff742804183ace511ed48d4b362b76143aeb39dd2b49aa669dd3df10e8bb2", func := "rescript/rescriptlaw16.StreamDoes", spec := "streamDoes", inPlace := ["slices.overlaps[byte]"], unfollowed := true, recurses := true, apart := false }
def StreamDoesSaid : Prop := streamDoesRow.holds Try.pinned (OpenSpec.ofChange streamDoesSpec)

/-- ITS FALSE NEIGHBOUR: 'it returns false'. Refute it at one input. -/
def streamDoesWrong : ChangeSpec := { name := "streamDoes", fn := fun _ => fun
  | [d1, d2] => { results := [.lit (.bool false)], args := [d1, d2] }
  | _ => none }
def StreamDoesWrongFalsely : Prop := streamDoesRow.holds Try.pinned (OpenSpec.ofChange streamDoesWrong)

/-- 'rescriptlaw16.StreamCuts': WHATEVER THE INPUT: true; the input reads as it did. -/
def streamCutsSpec : ChangeSpec := { name := "streamCuts", fn := fun _ => fun
  | [d1, d2] => { results := [.lit (.bool true)], args := [d1, d2] }
  | _ => none }
def streamCutsRow : OpenClaim := { program := "ytoinndlialimcaa", sum := "f21ff742804183ace511ed48d4b362b76143aeb39dd2b49aa669dd3df10e8bb2", func := "rescript/rescriptlaw16.StreamCuts", spec := "streamCuts", inPlace := ["slices.overlaps[byte]"], unfollowed := true, recurses := true, apart := false }
def StreamCutsSaid : Prop := streamCutsRow.holds Try.pinned (OpenSpec.ofChange streamCutsSpec)

/-- ITS FALSE NEIGHBOUR: 'it returns false'. Refute it at one input. -/
def streamCutsWrong : ChangeSpec := { name := "streamCuts", fn := fun _ => fun
  | [d1, d2] => { results := [.lit (.bool false)], args := [d1, d2] }
  | _ => none }
def StreamCutsWrongFalsely : Prop := streamCutsRow.holds Try.pinned (OpenSpec.ofChange streamCutsWrong)

/-- 'rescriptlaw16.StreamFrames': WHATEVER THE INPUT: true; the input reads as it did. -/
def streamFramesSpec : ChangeSpec := { name := "streamFrames", fn := fun _ => fun
  | [d1, d2] => { results := [.lit (.bool true)], args := [d1, d2] }
  | _ => none }
def streamFramesRow : OpenClaim := { program := "ytoinndlialimcaa", sum := "f21ff742804183ace511ed48d4b362b76143aeb39dd2b49aa669dd3df10e8bb2", func := "rescript/rescriptlaw16.StreamFrames", spec := "streamFrames", inPlace := ["slices.overlaps[byte]"], unfollowed := true, recurses := true, apart := false }
def StreamFramesSaid : Prop := streamFramesRow.holds Try.pinned (OpenSpec.ofChange streamFramesSpec)

/-- ITS FALSE NEIGHBOUR: 'it returns false'. Refute it at one input. -/
def streamFramesWrong : ChangeSpec := { name := "streamFrames", fn := fun _ => fun
  | [d1, d2] => { results := [.lit (.bool false)], args := [d1, d2] }
  | _ => none }
def StreamFramesWrongFalsely : Prop := streamFramesRow.holds Try.pinned (OpenSpec.ofChange streamFramesWrong)

/-- 'rescriptlaw16.StreamTwice': WHATEVER THE INPUT: true; the input reads as it did. -/
def streamTwiceSpec : ChangeSpec := { name := "streamTwice", fn := fun _ => fun
  | [d1, d2, d3, d4] => { results := [.lit (.bool true)], args := [d1, d2, d3, d4] }
  | _ => none }
def streamTwiceRow : OpenClaim := { program := "ytoinndlialimcaa", sum := "f21ff742804183ace511ed48d4b362b76143aeb39dd2b49aa669dd3df10e8bb2", func := "rescript/rescriptlaw16.StreamTwice", spec := "streamTwice", inPlace := ["slices.overlaps[byte]"], unfollowed := true, recurses := true, apart := false }
def StreamTwiceSaid : Prop := streamTwiceRow.holds Try.pinned (OpenSpec.ofChange streamTwiceSpec)

/-- ITS FALSE NEIGHBOUR: 'it returns false'. Refute it at one input. -/
def streamTwiceWrong : ChangeSpec := { name := "streamTwice", fn := fun _ => fun
  | [d1, d2, d3, d4] => { results := [.lit (.bool false)], args := [d1, d2, d3, d4] }
  | _ => none }
def StreamTwiceWrongFalsely : Prop := streamTwiceRow.holds Try.pinned (OpenSpec.ofChange streamTwiceWrong)

/-- 'rescripttop.WholeJunk': WHATEVER THE INPUT: true; the input reads as it did. -/
def wholeJunkSpec : ChangeSpec := { name := "wholeJunk", fn := fun _ => fun
  | [d1, d2] => { results := [.lit (.bool true)], args := [d1, d2] }
  | _ => none }
def wholeJunkRow : OpenClaim := { program := "ytoinndlialimcaa", sum := "f21ff742804183ace511ed48d4b362b76143aeb39dd2b49aa669dd3df10e8bb2", func := "rescript/rescripttop.WholeJunk", spec := "wholeJunk", unfollowed := true, recurses := true, apart := false }
def WholeJunkSaid : Prop := wholeJunkRow.holds Try.pinned (OpenSpec.ofChange wholeJunkSpec)

/-- ITS FALSE NEIGHBOUR: 'it returns false'. Refute it at one input. -/
def wholeJunkWrong : ChangeSpec := { name := "wholeJunk", fn := fun _ => fun
  | [d1, d2] => { results := [.lit (.bool false)], args := [d1, d2] }
  | _ => none }
def WholeJunkWrongFalsely : Prop := wholeJunkRow.holds Try.pinned (OpenSpec.ofChange wholeJunkWrong)

/-- 'rescriptlaw16.StreamLoses': WHATEVER THE INPUT: true; the input reads as it did. -/
def streamLosesSpec : ChangeSpec := { name := "streamLoses", fn := fun _ => fun
  | [d1, d2, d3, d4] => { results := [.lit (.bool true)], args := [d1, d2, d3, d4] }
  | _ => none }
def streamLosesRow : OpenClaim := { program := "ytoinndlialimcaa", sum := "f21ff742804183ace511ed48d4b362b76143aeb39dd2b49aa669dd3df10e8bb2", func := "rescript/rescriptlaw16.StreamLoses", spec := "streamLoses", inPlace := ["slices.overlaps[byte]"], unfollowed := true, recurses := true, apart := false }
def StreamLosesSaid : Prop := streamLosesRow.holds Try.pinned (OpenSpec.ofChange streamLosesSpec)

/-- ITS FALSE NEIGHBOUR: 'it returns false'. Refute it at one input. -/
def streamLosesWrong : ChangeSpec := { name := "streamLoses", fn := fun _ => fun
  | [d1, d2, d3, d4] => { results := [.lit (.bool false)], args := [d1, d2, d3, d4] }
  | _ => none }
def StreamLosesWrongFalsely : Prop := streamLosesRow.holds Try.pinned (OpenSpec.ofChange streamLosesWrong)

/-- 'rescripttop.WholeLost': WHATEVER THE INPUT: true; the input reads as it did. -/
def wholeLostSpec : ChangeSpec := { name := "wholeLost", fn := fun _ => fun
  | [d1, d2, d3, d4] => { results := [.lit (.bool true)], args := [d1, d2, d3, d4] }
  | _ => none }
def wholeLostRow : OpenClaim := { program := "ytoinndlialimcaa", sum := "f21ff742804183ace511ed48d4b362b76143aeb39dd2b49aa669dd3df10e8bb2", func := "rescript/rescripttop.WholeLost", spec := "wholeLost", inPlace := ["slices.overlaps[byte]"], unfollowed := true, recurses := true, apart := false }
def WholeLostSaid : Prop := wholeLostRow.holds Try.pinned (OpenSpec.ofChange wholeLostSpec)

/-- ITS FALSE NEIGHBOUR: 'it returns false'. Refute it at one input. -/
def wholeLostWrong : ChangeSpec := { name := "wholeLost", fn := fun _ => fun
  | [d1, d2, d3, d4] => { results := [.lit (.bool false)], args := [d1, d2, d3, d4] }
  | _ => none }
def WholeLostWrongFalsely : Prop := wholeLostRow.holds Try.pinned (OpenSpec.ofChange wholeLostWrong)

/- THE SECOND FORM. 'bulk': how many values and letters a reading holds, each counted each time it is reached (what is shared counts as often as it is met; a slice's spare places count too). A statement '..UptoSaid' is the law's where the arguments, and the package variables that the reading takes, are together of bulk at most 1048576: NARROWER than '..Said'. Prove '..Said' where nothing that the law and all that it calls make is longer than what came in: it says more and counts as full. Else prove '..UptoSaid'. A law counts once. -/
mutual
def uptoBulk {H : Type} : DataW H → Nat
  | .lit (.string bytes) => bytes.length + 1
  | .lit _ => 1
  | .nil => 1
  | .ptr d => uptoBulk d + 1
  | .slice elems spare => uptoBulkAll elems + uptoBulkAll spare + 1
  | .agg parts => uptoBulkAll parts + 1
  | .iface _ d => uptoBulk d + 1
  | .map entries => uptoBulkEntries entries + 1
  | .held _ => 1
def uptoBulkAll {H : Type} : List (DataW H) → Nat
  | [] => 0
  | d :: r => uptoBulk d + uptoBulkAll r
def uptoBulkEntries {H : Type} : List (Lit × DataW H) → Nat
  | [] => 0
  | x :: r => uptoBulkEntry x + uptoBulkEntries r
def uptoBulkEntry {H : Type} : Lit × DataW H → Nat
  | (.string bytes, d) => bytes.length + uptoBulk d + 1
  | (_, d) => uptoBulk d + 1
 end
def uptoSmall : (H : Type) → List (DataW H) → Bool := fun _ ds => decide (uptoBulkAll ds ≤ 1048576)
def OpenSpec.upto (s : _root_.Go.ChangeSpec) : _root_.Go.OpenSpec := { _root_.Go.OpenSpec.ofChange s with cond := some uptoSmall }

/-- 'rescriptlaw16.StreamDoes', WHERE WHAT IT READS IS OF BULK AT MOST 1048576: true; the input reads as it did. -/
def streamDoesUptoRow : OpenClaim := { program := "ytoinndlialimcaa", sum := "f21ff742804183ace511ed48d4b362b76143aeb39dd2b49aa669dd3df10e8bb2", func := "rescript/rescriptlaw16.StreamDoes", spec := "streamDoes", inPlace := ["slices.overlaps[byte]"], unfollowed := true, recurses := true, apart := false, narrowed := true }
def StreamDoesUptoSaid : Prop := streamDoesUptoRow.holds Try.pinned (OpenSpec.upto streamDoesSpec)

/-- 'rescriptlaw16.StreamCuts', WHERE WHAT IT READS IS OF BULK AT MOST 1048576: true; the input reads as it did. -/
def streamCutsUptoRow : OpenClaim := { program := "ytoinndlialimcaa", sum := "f21ff742804183ace511ed48d4b362b76143aeb39dd2b49aa669dd3df10e8bb2", func := "rescript/rescriptlaw16.StreamCuts", spec := "streamCuts", inPlace := ["slices.overlaps[byte]"], unfollowed := true, recurses := true, apart := false, narrowed := true }
def StreamCutsUptoSaid : Prop := streamCutsUptoRow.holds Try.pinned (OpenSpec.upto streamCutsSpec)

/-- 'rescriptlaw16.StreamFrames', WHERE WHAT IT READS IS OF BULK AT MOST 1048576: true; the input reads as it did. -/
def streamFramesUptoRow : OpenClaim := { program := "ytoinndlialimcaa", sum := "f21ff742804183ace511ed48d4b362b76143aeb39dd2b49aa669dd3df10e8bb2", func := "rescript/rescriptlaw16.StreamFrames", spec := "streamFrames", inPlace := ["slices.overlaps[byte]"], unfollowed := true, recurses := true, apart := false, narrowed := true }
def StreamFramesUptoSaid : Prop := streamFramesUptoRow.holds Try.pinned (OpenSpec.upto streamFramesSpec)

/-- 'rescriptlaw16.StreamTwice', WHERE WHAT IT READS IS OF BULK AT MOST 1048576: true; the input reads as it did. -/
def streamTwiceUptoRow : OpenClaim := { program := "ytoinndlialimcaa", sum := "f21ff742804183ace511ed48d4b362b76143aeb39dd2b49aa669dd3df10e8bb2", func := "rescript/rescriptlaw16.StreamTwice", spec := "streamTwice", inPlace := ["slices.overlaps[byte]"], unfollowed := true, recurses := true, apart := false, narrowed := true }
def StreamTwiceUptoSaid : Prop := streamTwiceUptoRow.holds Try.pinned (OpenSpec.upto streamTwiceSpec)

/-- 'rescripttop.WholeJunk', WHERE WHAT IT READS IS OF BULK AT MOST 1048576: true; the input reads as it did. -/
def wholeJunkUptoRow : OpenClaim := { program := "ytoinndlialimcaa", sum := "f21ff742804183ace511ed48d4b362b76143aeb39dd2b49aa669dd3df10e8bb2", func := "rescript/rescripttop.WholeJunk", spec := "wholeJunk", unfollowed := true, recurses := true, apart := false, narrowed := true }
def WholeJunkUptoSaid : Prop := wholeJunkUptoRow.holds Try.pinned (OpenSpec.upto wholeJunkSpec)

/-- 'rescriptlaw16.StreamLoses', WHERE WHAT IT READS IS OF BULK AT MOST 1048576: true; the input reads as it did. -/
def streamLosesUptoRow : OpenClaim := { program := "ytoinndlialimcaa", sum := "f21ff742804183ace511ed48d4b362b76143aeb39dd2b49aa669dd3df10e8bb2", func := "rescript/rescriptlaw16.StreamLoses", spec := "streamLoses", inPlace := ["slices.overlaps[byte]"], unfollowed := true, recurses := true, apart := false, narrowed := true }
def StreamLosesUptoSaid : Prop := streamLosesUptoRow.holds Try.pinned (OpenSpec.upto streamLosesSpec)

/-- 'rescripttop.WholeLost', WHERE WHAT IT READS IS OF BULK AT MOST 1048576: true; the input reads as it did. -/
def wholeLostUptoRow : OpenClaim := { program := "ytoinndlialimcaa", sum := "f21ff742804183ace511ed48d4b362b76143aeb39dd2b49aa669dd3df10e8bb2", func := "rescript/rescripttop.WholeLost", spec := "wholeLost", inPlace := ["slices.overlaps[byte]"], unfollowed := true, recurses := true, apart := false, narrowed := true }
def WholeLostUptoSaid : Prop := wholeLostUptoRow.holds Try.pinned (OpenSpec.upto wholeLostSpec)

end Rows
end Go.Proofs.Ytoinndlialimcaa
