/-
  No cell of these rows narrows 'for every input' (looked for: loops, veiled, ifaces, maps, wideKeys, modest, calm, conditions, laid).
  DERIVED. THE GIVEN ROWS OF THIS SEAT. 4 by the template 'for every input the law returns true; each argument reads behind the call as it read before'; 0 by the template 'total and deterministic' (their statements: YtbjoohafgkodcaaGreatTotals.lean).
  GIVEN WITH THE SEED: the statements are not yours to turn. If you find one false, say at which input.
  Laid BY PROGRAM, IN A SANDBOX (cutbox-rows.mjs): the forced cells as the released guide's own fill.sh prints them over the translation f124e77294cd0a21… (all of the seat's roots in one cut). By AI agents, Wed Nov 11 2026. No macro, syntax, notation, axiom, sorry.
-/
import Derived.Test.YtbjoohafgkodcaaGreatChecked
import GoSem.Claim
import GoSem.ClaimJoined
import GoSem.ClaimMapViews
import Derived.JoinedTies
import Derived.KernelRfl
namespace Go.Proofs.YtbjoohafgkodcaaGreat
/- THE CELL 'sum', in the pinned program and in every row, IS THE sha256 OF THE DUMP (.gsa) THAT YtbjoohafgkodcaaGreatProg.lean LOADS. Nothing in Lean hashes anything: it is a label: what it is worth is what the hold of that sum in a sandbox is worth. -/
noncomputable def Tryz.pinned : Pinned := { name := "ytbjoohafgkodcaagreat", sum := "f124e77294cd0a21eaa8b1e2bb20d081fdbaf18ef59f94b35fe949943d95de42", checked := Tryz.checked }
namespace Rows
def none {H : Type} : Left H := { results := [], args := [] }

/-- 'rescriptlaw12.StrictReads': WHATEVER THE INPUT: true; the input reads as it did. -/
def strictReadsSpec : ChangeSpec := { name := "strictReads", fn := fun _ => fun
  | [d1, d2, d3] => { results := [.lit (.bool true)], args := [d1, d2, d3] }
  | _ => none }
def strictReadsRow : OpenClaim := { program := "ytbjoohafgkodcaagreat", sum := "f124e77294cd0a21eaa8b1e2bb20d081fdbaf18ef59f94b35fe949943d95de42", func := "rescript/rescriptlaw12.StrictReads", spec := "strictReads", unfollowed := true, recurses := true, apart := false }
def StrictReadsSaid : Prop := strictReadsRow.holds Tryz.pinned (OpenSpec.ofChange strictReadsSpec)

/-- ITS FALSE NEIGHBOUR: 'it returns false'. Refute it at one input. -/
def strictReadsWrong : ChangeSpec := { name := "strictReads", fn := fun _ => fun
  | [d1, d2, d3] => { results := [.lit (.bool false)], args := [d1, d2, d3] }
  | _ => none }
def StrictReadsWrongFalsely : Prop := strictReadsRow.holds Tryz.pinned (OpenSpec.ofChange strictReadsWrong)

/-- 'rescriptlaw12.StrictAny': WHATEVER THE INPUT: true; the input reads as it did. -/
def strictAnySpec : ChangeSpec := { name := "strictAny", fn := fun _ => fun
  | [d] => { results := [.lit (.bool true)], args := [d] }
  | _ => none }
def strictAnyRow : OpenClaim := { program := "ytbjoohafgkodcaagreat", sum := "f124e77294cd0a21eaa8b1e2bb20d081fdbaf18ef59f94b35fe949943d95de42", func := "rescript/rescriptlaw12.StrictAny", spec := "strictAny", unfollowed := true, recurses := true, apart := false }
def StrictAnySaid : Prop := strictAnyRow.holds Tryz.pinned (OpenSpec.ofChange strictAnySpec)

/-- ITS FALSE NEIGHBOUR: 'it returns false'. Refute it at one input. -/
def strictAnyWrong : ChangeSpec := { name := "strictAny", fn := fun _ => fun
  | [d] => { results := [.lit (.bool false)], args := [d] }
  | _ => none }
def StrictAnyWrongFalsely : Prop := strictAnyRow.holds Tryz.pinned (OpenSpec.ofChange strictAnyWrong)

/-- 'rescriptlaw13.FrameOf': WHATEVER THE INPUT: true; the input reads as it did. -/
def frameOfSpec : ChangeSpec := { name := "frameOf", fn := fun _ => fun
  | [d1, d2] => { results := [.lit (.bool true)], args := [d1, d2] }
  | _ => none }
def frameOfRow : OpenClaim := { program := "ytbjoohafgkodcaagreat", sum := "f124e77294cd0a21eaa8b1e2bb20d081fdbaf18ef59f94b35fe949943d95de42", func := "rescript/rescriptlaw13.FrameOf", spec := "frameOf", unfollowed := true, recurses := true, apart := false }
def FrameOfSaid : Prop := frameOfRow.holds Tryz.pinned (OpenSpec.ofChange frameOfSpec)

/-- ITS FALSE NEIGHBOUR: 'it returns false'. Refute it at one input. -/
def frameOfWrong : ChangeSpec := { name := "frameOf", fn := fun _ => fun
  | [d1, d2] => { results := [.lit (.bool false)], args := [d1, d2] }
  | _ => none }
def FrameOfWrongFalsely : Prop := frameOfRow.holds Tryz.pinned (OpenSpec.ofChange frameOfWrong)

/-- 'rescripttop.WholeMail': WHATEVER THE INPUT: true; the input reads as it did. -/
def wholeMailSpec : ChangeSpec := { name := "wholeMail", fn := fun _ => fun
  | [d1, d2, d3] => { results := [.lit (.bool true)], args := [d1, d2, d3] }
  | _ => none }
def wholeMailRow : OpenClaim := { program := "ytbjoohafgkodcaagreat", sum := "f124e77294cd0a21eaa8b1e2bb20d081fdbaf18ef59f94b35fe949943d95de42", func := "rescript/rescripttop.WholeMail", spec := "wholeMail", unfollowed := true, recurses := true, apart := false }
def WholeMailSaid : Prop := wholeMailRow.holds Tryz.pinned (OpenSpec.ofChange wholeMailSpec)

/-- ITS FALSE NEIGHBOUR: 'it returns false'. Refute it at one input. -/
def wholeMailWrong : ChangeSpec := { name := "wholeMail", fn := fun _ => fun
  | [d1, d2, d3] => { results := [.lit (.bool false)], args := [d1, d2, d3] }
  | _ => none }
def WholeMailWrongFalsely : Prop := wholeMailRow.holds Tryz.pinned (OpenSpec.ofChange wholeMailWrong)

/- THE SECOND FORM. 'bulk': how many values and letters a reading holds, each counted each time it is reached (what is shared counts as often as it is met; a slice's spare places count too). A statement '..UptoSaid' is the law's where the arguments, and the package variables that the reading takes, are together of bulk at most 1048576: NARROWER than '..Said'. Prove '..Said' where nothing that the law and all that it calls make is longer than what came in: it says more and counts as full. Else prove '..UptoSaid'. A law counts once. -/
mutual
def uptoBulk {H : Type} : DataW H → Nat
  | .lit (.string bytes) => bytes.length + 1
  | .lit _ => 1
  | .nil => 1
  | .ptr d => uptoBulk d + 1
  | .slice elems spare => uptoBulkAll elems + uptoBulkAll spare + 1
  | .agg parts => uptoBulkAll parts + 1
  | .iface _ d => uptoBulk d + 1
  | .map entries => uptoBulkEntries entries + 1
  | .held _ => 1
def uptoBulkAll {H : Type} : List (DataW H) → Nat
  | [] => 0
  | d :: r => uptoBulk d + uptoBulkAll r
def uptoBulkEntries {H : Type} : List (Lit × DataW H) → Nat
  | [] => 0
  | x :: r => uptoBulkEntry x + uptoBulkEntries r
def uptoBulkEntry {H : Type} : Lit × DataW H → Nat
  | (.string bytes, d) => bytes.length + uptoBulk d + 1
  | (_, d) => uptoBulk d + 1
 end
def uptoSmall : (H : Type) → List (DataW H) → Bool := fun _ ds => decide (uptoBulkAll ds ≤ 1048576)
def OpenSpec.upto (s : _root_.Go.ChangeSpec) : _root_.Go.OpenSpec := { _root_.Go.OpenSpec.ofChange s with cond := some uptoSmall }

/-- 'rescriptlaw12.StrictReads', WHERE WHAT IT READS IS OF BULK AT MOST 1048576: true; the input reads as it did. -/
def strictReadsUptoRow : OpenClaim := { program := "ytbjoohafgkodcaagreat", sum := "f124e77294cd0a21eaa8b1e2bb20d081fdbaf18ef59f94b35fe949943d95de42", func := "rescript/rescriptlaw12.StrictReads", spec := "strictReads", unfollowed := true, recurses := true, apart := false, narrowed := true }
def StrictReadsUptoSaid : Prop := strictReadsUptoRow.holds Tryz.pinned (OpenSpec.upto strictReadsSpec)

/-- 'rescriptlaw12.StrictAny', WHERE WHAT IT READS IS OF BULK AT MOST 1048576: true; the input reads as it did. -/
def strictAnyUptoRow : OpenClaim := { program := "ytbjoohafgkodcaagreat", sum := "f124e77294cd0a21eaa8b1e2bb20d081fdbaf18ef59f94b35fe949943d95de42", func := "rescript/rescriptlaw12.StrictAny", spec := "strictAny", unfollowed := true, recurses := true, apart := false, narrowed := true }
def StrictAnyUptoSaid : Prop := strictAnyUptoRow.holds Tryz.pinned (OpenSpec.upto strictAnySpec)

/-- 'rescriptlaw13.FrameOf', WHERE WHAT IT READS IS OF BULK AT MOST 1048576: true; the input reads as it did. -/
def frameOfUptoRow : OpenClaim := { program := "ytbjoohafgkodcaagreat", sum := "f124e77294cd0a21eaa8b1e2bb20d081fdbaf18ef59f94b35fe949943d95de42", func := "rescript/rescriptlaw13.FrameOf", spec := "frameOf", unfollowed := true, recurses := true, apart := false, narrowed := true }
def FrameOfUptoSaid : Prop := frameOfUptoRow.holds Tryz.pinned (OpenSpec.upto frameOfSpec)

/-- 'rescripttop.WholeMail', WHERE WHAT IT READS IS OF BULK AT MOST 1048576: true; the input reads as it did. -/
def wholeMailUptoRow : OpenClaim := { program := "ytbjoohafgkodcaagreat", sum := "f124e77294cd0a21eaa8b1e2bb20d081fdbaf18ef59f94b35fe949943d95de42", func := "rescript/rescripttop.WholeMail", spec := "wholeMail", unfollowed := true, recurses := true, apart := false, narrowed := true }
def WholeMailUptoSaid : Prop := wholeMailUptoRow.holds Tryz.pinned (OpenSpec.upto wholeMailSpec)

end Rows
end Go.Proofs.YtbjoohafgkodcaaGreat
