/-
  No cell of these rows narrows 'for every input' (looked for: loops, veiled, ifaces, maps, wideKeys, modest, calm, conditions, laid).
  DERIVED. THE GIVEN ROWS OF THIS SEAT. 7 by the template 'for every input the law returns true; each argument reads behind the call as it read before'; 0 by the template 'total and deterministic' (their statements: YthjfgefkahgenaaTotals.lean).
  GIVEN WITH THE SEED: the statements are not yours to turn. If you find one false, say at which input.
  Laid BY PROGRAM, IN A SANDBOX (cutbox-rows.mjs): the forced cells as the released guide's own fill.sh prints them over the translation 7d584a6063107e55… (all of the seat's roots in one cut). By AI agents, Wed Nov 11 2026. No macro, syntax, notation, axiom, sorry.
-/
import Derived.Test.YthjfgefkahgenaaChecked
import GoSem.Claim
import GoSem.ClaimJoined
import GoSem.ClaimMapViews
import Derived.JoinedTies
import Derived.KernelRfl
namespace Go.Proofs.Ythjfgefkahgenaa
/- THE CELL 'sum', in the pinned program and in every row, IS THE sha256 OF THE DUMP (.gsa) THAT YthjfgefkahgenaaProg.lean LOADS. Nothing in Lean hashes anything: it is a label: what it is worth is what the hold of that sum in a sandbox is worth. -/
noncomputable def Try.pinned : Pinned := { name := "ythjfgefkahgenaa", sum := "7d584a6063107e555907c17e29c83abe80b3a9b7f7a845cdcf59774830b8a0c9", checked := Try.checked }
namespace Rows
def none {H : Type} : Left H := { results := [], args := [] }

/-- 'rescriptlaw14.ResyncJunk': WHATEVER THE INPUT: true; the input reads as it did. -/
def resyncJunkSpec : ChangeSpec := { name := "resyncJunk", fn := fun _ => fun
  | [d1, d2] => { results := [.lit (.bool true)], args := [d1, d2] }
  | _ => none }
def resyncJunkRow : OpenClaim := { program := "ythjfgefkahgenaa", sum := "7d584a6063107e555907c17e29c83abe80b3a9b7f7a845cdcf59774830b8a0c9", func := "rescript/rescriptlaw14.ResyncJunk", spec := "resyncJunk", unfollowed := true, recurses := true, apart := false }
def ResyncJunkSaid : Prop := resyncJunkRow.holds Try.pinned (OpenSpec.ofChange resyncJunkSpec)

/-- ITS FALSE NEIGHBOUR: 'it returns false'. Refute it at one input. -/
def resyncJunkWrong : ChangeSpec := { name := "resyncJunk", fn := fun _ => fun
  | [d1, d2] => { results := [.lit (.bool false)], args := [d1, d2] }
  | _ => none }
def ResyncJunkWrongFalsely : Prop := resyncJunkRow.holds Try.pinned (OpenSpec.ofChange resyncJunkWrong)

/-- 'rescriptlaw14.ResyncGaps': WHATEVER THE INPUT: true; the input reads as it did. -/
def resyncGapsSpec : ChangeSpec := { name := "resyncGaps", fn := fun _ => fun
  | [d] => { results := [.lit (.bool true)], args := [d] }
  | _ => none }
def resyncGapsRow : OpenClaim := { program := "ythjfgefkahgenaa", sum := "7d584a6063107e555907c17e29c83abe80b3a9b7f7a845cdcf59774830b8a0c9", func := "rescript/rescriptlaw14.ResyncGaps", spec := "resyncGaps", unfollowed := true, recurses := true, apart := false }
def ResyncGapsSaid : Prop := resyncGapsRow.holds Try.pinned (OpenSpec.ofChange resyncGapsSpec)

/-- ITS FALSE NEIGHBOUR: 'it returns false'. Refute it at one input. -/
def resyncGapsWrong : ChangeSpec := { name := "resyncGaps", fn := fun _ => fun
  | [d] => { results := [.lit (.bool false)], args := [d] }
  | _ => none }
def ResyncGapsWrongFalsely : Prop := resyncGapsRow.holds Try.pinned (OpenSpec.ofChange resyncGapsWrong)

/-- 'rescriptlaw15.FeederTells': WHATEVER THE INPUT: true; the input reads as it did. -/
def feederTellsSpec : ChangeSpec := { name := "feederTells", fn := fun _ => fun
  | [d] => { results := [.lit (.bool true)], args := [d] }
  | _ => none }
def feederTellsRow : OpenClaim := { program := "ythjfgefkahgenaa", sum := "7d584a6063107e555907c17e29c83abe80b3a9b7f7a845cdcf59774830b8a0c9", func := "rescript/rescriptlaw15.FeederTells", spec := "feederTells", unfollowed := true, recurses := true, apart := false }
def FeederTellsSaid : Prop := feederTellsRow.holds Try.pinned (OpenSpec.ofChange feederTellsSpec)

/-- ITS FALSE NEIGHBOUR: 'it returns false'. Refute it at one input. -/
def feederTellsWrong : ChangeSpec := { name := "feederTells", fn := fun _ => fun
  | [d] => { results := [.lit (.bool false)], args := [d] }
  | _ => none }
def FeederTellsWrongFalsely : Prop := feederTellsRow.holds Try.pinned (OpenSpec.ofChange feederTellsWrong)

/-- 'rescriptlaw15.FeederSame': WHATEVER THE INPUT: true; the input reads as it did. -/
def feederSameSpec : ChangeSpec := { name := "feederSame", fn := fun _ => fun
  | [d1, d2] => { results := [.lit (.bool true)], args := [d1, d2] }
  | _ => none }
def feederSameRow : OpenClaim := { program := "ythjfgefkahgenaa", sum := "7d584a6063107e555907c17e29c83abe80b3a9b7f7a845cdcf59774830b8a0c9", func := "rescript/rescriptlaw15.FeederSame", spec := "feederSame", unfollowed := true, recurses := true, apart := false }
def FeederSameSaid : Prop := feederSameRow.holds Try.pinned (OpenSpec.ofChange feederSameSpec)

/-- ITS FALSE NEIGHBOUR: 'it returns false'. Refute it at one input. -/
def feederSameWrong : ChangeSpec := { name := "feederSame", fn := fun _ => fun
  | [d1, d2] => { results := [.lit (.bool false)], args := [d1, d2] }
  | _ => none }
def FeederSameWrongFalsely : Prop := feederSameRow.holds Try.pinned (OpenSpec.ofChange feederSameWrong)

/-- 'rescriptlaw15.FeederHolds': WHATEVER THE INPUT: true; the input reads as it did. -/
def feederHoldsSpec : ChangeSpec := { name := "feederHolds", fn := fun _ => fun
  | [d1, d2, d3] => { results := [.lit (.bool true)], args := [d1, d2, d3] }
  | _ => none }
def feederHoldsRow : OpenClaim := { program := "ythjfgefkahgenaa", sum := "7d584a6063107e555907c17e29c83abe80b3a9b7f7a845cdcf59774830b8a0c9", func := "rescript/rescriptlaw15.FeederHolds", spec := "feederHolds", unfollowed := true, recurses := true, apart := false }
def FeederHoldsSaid : Prop := feederHoldsRow.holds Try.pinned (OpenSpec.ofChange feederHoldsSpec)

/-- ITS FALSE NEIGHBOUR: 'it returns false'. Refute it at one input. -/
def feederHoldsWrong : ChangeSpec := { name := "feederHolds", fn := fun _ => fun
  | [d1, d2, d3] => { results := [.lit (.bool false)], args := [d1, d2, d3] }
  | _ => none }
def FeederHoldsWrongFalsely : Prop := feederHoldsRow.holds Try.pinned (OpenSpec.ofChange feederHoldsWrong)

/-- 'rescriptlaw14.ResyncStands': WHATEVER THE INPUT: true; the input reads as it did. -/
def resyncStandsSpec : ChangeSpec := { name := "resyncStands", fn := fun _ => fun
  | [d] => { results := [.lit (.bool true)], args := [d] }
  | _ => none }
def resyncStandsRow : OpenClaim := { program := "ythjfgefkahgenaa", sum := "7d584a6063107e555907c17e29c83abe80b3a9b7f7a845cdcf59774830b8a0c9", func := "rescript/rescriptlaw14.ResyncStands", spec := "resyncStands", unfollowed := true, recurses := true, apart := false }
def ResyncStandsSaid : Prop := resyncStandsRow.holds Try.pinned (OpenSpec.ofChange resyncStandsSpec)

/-- ITS FALSE NEIGHBOUR: 'it returns false'. Refute it at one input. -/
def resyncStandsWrong : ChangeSpec := { name := "resyncStands", fn := fun _ => fun
  | [d] => { results := [.lit (.bool false)], args := [d] }
  | _ => none }
def ResyncStandsWrongFalsely : Prop := resyncStandsRow.holds Try.pinned (OpenSpec.ofChange resyncStandsWrong)

/-- 'rescripttop.WholeNested': WHATEVER THE INPUT: true; the input reads as it did. -/
def wholeNestedSpec : ChangeSpec := { name := "wholeNested", fn := fun _ => fun
  | [d1, d2] => { results := [.lit (.bool true)], args := [d1, d2] }
  | _ => none }
def wholeNestedRow : OpenClaim := { program := "ythjfgefkahgenaa", sum := "7d584a6063107e555907c17e29c83abe80b3a9b7f7a845cdcf59774830b8a0c9", func := "rescript/rescripttop.WholeNested", spec := "wholeNested", unfollowed := true, recurses := true, apart := false }
def WholeNestedSaid : Prop := wholeNestedRow.holds Try.pinned (OpenSpec.ofChange wholeNestedSpec)

/-- ITS FALSE NEIGHBOUR: 'it returns false'. Refute it at one input. -/
def wholeNestedWrong : ChangeSpec := { name := "wholeNested", fn := fun _ => fun
  | [d1, d2] => { results := [.lit (.bool false)], args := [d1, d2] }
  | _ => none }
def WholeNestedWrongFalsely : Prop := wholeNestedRow.holds Try.pinned (OpenSpec.ofChange wholeNestedWrong)

/- THE SECOND FORM. 'bulk': how many values and letters a reading holds, each counted each time it is reached (what is shared counts as often as it is met; a slice's spare places count too). A statement '..UptoSaid' is the law's where the arguments, and the package variables that the reading takes, are together of bulk at most 1048576: NARROWER than '..Said'. Prove '..Said' where nothing that the law and all that it calls make is longer than what came in: it says more and counts as full. Else prove '..UptoSaid'. A law counts once. -/
mutual
def uptoBulk {H : Type} : DataW H → Nat
  | .lit (.string bytes) => bytes.length + 1
  | .lit _ => 1
  | .nil => 1
  | .ptr d => uptoBulk d + 1
  | .slice elems spare => uptoBulkAll elems + uptoBulkAll spare + 1
  | .agg parts => uptoBulkAll parts + 1
  | .iface _ d => uptoBulk d + 1
  | .map entries => uptoBulkEntries entries + 1
  | .held _ => 1
def uptoBulkAll {H : Type} : List (DataW H) → Nat
  | [] => 0
  | d :: r => uptoBulk d + uptoBulkAll r
def uptoBulkEntries {H : Type} : List (Lit × DataW H) → Nat
  | [] => 0
  | x :: r => uptoBulkEntry x + uptoBulkEntries r
def uptoBulkEntry {H : Type} : Lit × DataW H → Nat
  | (.string bytes, d) => bytes.length + uptoBulk d + 1
  | (_, d) => uptoBulk d + 1
 end
def uptoSmall : (H : Type) → List (DataW H) → Bool := fun _ ds => decide (uptoBulkAll ds ≤ 1048576)
def OpenSpec.upto (s : _root_.Go.ChangeSpec) : _root_.Go.OpenSpec := { _root_.Go.OpenSpec.ofChange s with cond := some uptoSmall }

/-- 'rescriptlaw14.ResyncJunk', WHERE WHAT IT READS IS OF BULK AT MOST 1048576: true; the input reads as it did. -/
def resyncJunkUptoRow : OpenClaim := { program := "ythjfgefkahgenaa", sum := "7d584a6063107e555907c17e29c83abe80b3a9b7f7a845cdcf59774830b8a0c9", func := "rescript/rescriptlaw14.ResyncJunk", spec := "resyncJunk", unfollowed := true, recurses := true, apart := false, narrowed := true }
def ResyncJunkUptoSaid : Prop := resyncJunkUptoRow.holds Try.pinned (OpenSpec.upto resyncJunkSpec)

/-- 'rescriptlaw14.ResyncGaps', WHERE WHAT IT READS IS OF BULK AT MOST 1048576: true; the input reads as it did. -/
def resyncGapsUptoRow : OpenClaim := { program := "ythjfgefkahgenaa", sum := "7d584a6063107e555907c17e29c83abe80b3a9b7f7a845cdcf59774830b8a0c9", func := "rescript/rescriptlaw14.ResyncGaps", spec := "resyncGaps", unfollowed := true, recurses := true, apart := false, narrowed := true }
def ResyncGapsUptoSaid : Prop := resyncGapsUptoRow.holds Try.pinned (OpenSpec.upto resyncGapsSpec)

/-- 'rescriptlaw15.FeederTells', WHERE WHAT IT READS IS OF BULK AT MOST 1048576: true; the input reads as it did. -/
def feederTellsUptoRow : OpenClaim := { program := "ythjfgefkahgenaa", sum := "7d584a6063107e555907c17e29c83abe80b3a9b7f7a845cdcf59774830b8a0c9", func := "rescript/rescriptlaw15.FeederTells", spec := "feederTells", unfollowed := true, recurses := true, apart := false, narrowed := true }
def FeederTellsUptoSaid : Prop := feederTellsUptoRow.holds Try.pinned (OpenSpec.upto feederTellsSpec)

/-- 'rescriptlaw15.FeederSame', WHERE WHAT IT READS IS OF BULK AT MOST 1048576: true; the input reads as it did. -/
def feederSameUptoRow : OpenClaim := { program := "ythjfgefkahgenaa", sum := "7d584a6063107e555907c17e29c83abe80b3a9b7f7a845cdcf59774830b8a0c9", func := "rescript/rescriptlaw15.FeederSame", spec := "feederSame", unfollowed := true, recurses := true, apart := false, narrowed := true }
def FeederSameUptoSaid : Prop := feederSameUptoRow.holds Try.pinned (OpenSpec.upto feederSameSpec)

/-- 'rescriptlaw15.FeederHolds', WHERE WHAT IT READS IS OF BULK AT MOST 1048576: true; the input reads as it did. -/
def feederHoldsUptoRow : OpenClaim := { program := "ythjfgefkahgenaa", sum := "7d584a6063107e555907c17e29c83abe80b3a9b7f7a845cdcf59774830b8a0c9", func := "rescript/rescriptlaw15.FeederHolds", spec := "feederHolds", unfollowed := true, recurses := true, apart := false, narrowed := true }
def FeederHoldsUptoSaid : Prop := feederHoldsUptoRow.holds Try.pinned (OpenSpec.upto feederHoldsSpec)

/-- 'rescriptlaw14.ResyncStands', WHERE WHAT IT READS IS OF BULK AT MOST 1048576: true; the input reads as it did. -/
def resyncStandsUptoRow : OpenClaim := { program := "ythjfgefkahgenaa", sum := "7d584a6063107e555907c17e29c83abe80b3a9b7f7a845cdcf59774830b8a0c9", func := "rescript/rescriptlaw14.ResyncStands", spec := "resyncStands", unfollowed := true, recurses := true, apart := false, narrowed := true }
def ResyncStandsUptoSaid : Prop := resyncStandsUptoRow.holds Try.pinned (OpenSpec.upto resyncStandsSpec)

/-- 'rescripttop.WholeNested', WHERE WHAT IT READS IS OF BULK AT MOST 1048576: true; the input reads as it did. -/
def wholeNestedUptoRow : OpenClaim := { program := "ythjfgefkahgenaa", sum := "7d584a6063107e555907c17e29c83abe80b3a9b7f7a845cdcf59774830b8a0c9", func := "rescript/rescripttop.WholeNested", spec := "wholeNested", unfollowed := true, recurses := true, apart := false, narrowed := true }
def WholeNestedUptoSaid : Prop := wholeNestedUptoRow.holds Try.pinned (OpenSpec.upto wholeNestedSpec)

end Rows
end Go.Proofs.Ythjfgefkahgenaa
