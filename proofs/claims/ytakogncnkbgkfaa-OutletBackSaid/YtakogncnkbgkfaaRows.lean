/-
  No cell of these rows narrows 'for every input' (looked for: loops, veiled, ifaces, maps, wideKeys, modest, calm, conditions, laid).
  DERIVED. THE GIVEN ROWS OF THIS SEAT. 5 by the template 'for every input the law returns true; each argument reads behind the call as it read before'; 0 by the template 'total and deterministic' (their statements: YtakogncnkbgkfaaTotals.lean).
  GIVEN WITH THE SEED: the statements are not yours to turn. If you find one false, say at which input.
  Laid BY PROGRAM, IN A SANDBOX (cutbox-rows.mjs): the forced cells as the released guide's own fill.sh prints them over the translation ea361dceca858fe8… (all of the seat's roots in one cut). By AI agents, Wed Nov 11 2026. No macro, syntax, notation, axiom, sorry.
-/
import Derived.Test.YtakogncnkbgkfaaChecked
import GoSem.Claim
import GoSem.ClaimJoined
import GoSem.ClaimMapViews
import Derived.JoinedTies
import Derived.KernelRfl
namespace Go.Proofs.Ytakogncnkbgkfaa
/- THE CELL 'sum', in the pinned program and in every row, IS THE sha256 OF THE DUMP (.gsa) THAT YtakogncnkbgkfaaProg.lean LOADS. Nothing in Lean hashes anything: it is a label: what it is worth is what the hold of that sum in a sandbox is worth. -/
noncomputable def Try.pinned : Pinned := { name := "ytakogncnkbgkfaa", sum := "ea361dceca858fe8ea92f642b239edb6fed050d94fd5f525087149b3da394137", checked := Try.checked }
namespace Rows
def none {H : Type} : Left H := { results := [], args := [] }

/-- 'rescriptlaw05.OutletWrites': WHATEVER THE INPUT: true; the input reads as it did. -/
def outletWritesSpec : ChangeSpec := { name := "outletWrites", fn := fun _ => fun
  | [d1, d2] => { results := [.lit (.bool true)], args := [d1, d2] }
  | _ => none }
def outletWritesRow : OpenClaim := { program := "ytakogncnkbgkfaa", sum := "ea361dceca858fe8ea92f642b239edb6fed050d94fd5f525087149b3da394137", func := "rescript/rescriptlaw05.OutletWrites", spec := "outletWrites", unfollowed := true, recurses := true, apart := false }
def OutletWritesSaid : Prop := outletWritesRow.holds Try.pinned (OpenSpec.ofChange outletWritesSpec)

/-- ITS FALSE NEIGHBOUR: 'it returns false'. Refute it at one input. -/
def outletWritesWrong : ChangeSpec := { name := "outletWrites", fn := fun _ => fun
  | [d1, d2] => { results := [.lit (.bool false)], args := [d1, d2] }
  | _ => none }
def OutletWritesWrongFalsely : Prop := outletWritesRow.holds Try.pinned (OpenSpec.ofChange outletWritesWrong)

/-- 'rescriptlaw05.OutletAll': WHATEVER THE INPUT: true; the input reads as it did. -/
def outletAllSpec : ChangeSpec := { name := "outletAll", fn := fun _ => fun
  | [d1, d2, d3] => { results := [.lit (.bool true)], args := [d1, d2, d3] }
  | _ => none }
def outletAllRow : OpenClaim := { program := "ytakogncnkbgkfaa", sum := "ea361dceca858fe8ea92f642b239edb6fed050d94fd5f525087149b3da394137", func := "rescript/rescriptlaw05.OutletAll", spec := "outletAll", unfollowed := true, recurses := true, apart := false }
def OutletAllSaid : Prop := outletAllRow.holds Try.pinned (OpenSpec.ofChange outletAllSpec)

/-- ITS FALSE NEIGHBOUR: 'it returns false'. Refute it at one input. -/
def outletAllWrong : ChangeSpec := { name := "outletAll", fn := fun _ => fun
  | [d1, d2, d3] => { results := [.lit (.bool false)], args := [d1, d2, d3] }
  | _ => none }
def OutletAllWrongFalsely : Prop := outletAllRow.holds Try.pinned (OpenSpec.ofChange outletAllWrong)

/-- 'rescriptlaw04.InletReads': WHATEVER THE INPUT: true; the input reads as it did. -/
def inletReadsSpec : ChangeSpec := { name := "inletReads", fn := fun _ => fun
  | [d1, d2] => { results := [.lit (.bool true)], args := [d1, d2] }
  | _ => none }
def inletReadsRow : OpenClaim := { program := "ytakogncnkbgkfaa", sum := "ea361dceca858fe8ea92f642b239edb6fed050d94fd5f525087149b3da394137", func := "rescript/rescriptlaw04.InletReads", spec := "inletReads", unfollowed := true, recurses := true, apart := false }
def InletReadsSaid : Prop := inletReadsRow.holds Try.pinned (OpenSpec.ofChange inletReadsSpec)

/-- ITS FALSE NEIGHBOUR: 'it returns false'. Refute it at one input. -/
def inletReadsWrong : ChangeSpec := { name := "inletReads", fn := fun _ => fun
  | [d1, d2] => { results := [.lit (.bool false)], args := [d1, d2] }
  | _ => none }
def InletReadsWrongFalsely : Prop := inletReadsRow.holds Try.pinned (OpenSpec.ofChange inletReadsWrong)

/-- 'rescriptlaw04.InletStays': WHATEVER THE INPUT: true; the input reads as it did. -/
def inletStaysSpec : ChangeSpec := { name := "inletStays", fn := fun _ => fun
  | [d1, d2] => { results := [.lit (.bool true)], args := [d1, d2] }
  | _ => none }
def inletStaysRow : OpenClaim := { program := "ytakogncnkbgkfaa", sum := "ea361dceca858fe8ea92f642b239edb6fed050d94fd5f525087149b3da394137", func := "rescript/rescriptlaw04.InletStays", spec := "inletStays", unfollowed := true, recurses := true, apart := false }
def InletStaysSaid : Prop := inletStaysRow.holds Try.pinned (OpenSpec.ofChange inletStaysSpec)

/-- ITS FALSE NEIGHBOUR: 'it returns false'. Refute it at one input. -/
def inletStaysWrong : ChangeSpec := { name := "inletStays", fn := fun _ => fun
  | [d1, d2] => { results := [.lit (.bool false)], args := [d1, d2] }
  | _ => none }
def InletStaysWrongFalsely : Prop := inletStaysRow.holds Try.pinned (OpenSpec.ofChange inletStaysWrong)

/-- 'rescriptlaw05.OutletBack': WHATEVER THE INPUT: true; the input reads as it did. -/
def outletBackSpec : ChangeSpec := { name := "outletBack", fn := fun _ => fun
  | [d] => { results := [.lit (.bool true)], args := [d] }
  | _ => none }
def outletBackRow : OpenClaim := { program := "ytakogncnkbgkfaa", sum := "ea361dceca858fe8ea92f642b239edb6fed050d94fd5f525087149b3da394137", func := "rescript/rescriptlaw05.OutletBack", spec := "outletBack", unfollowed := true, recurses := true, apart := false }
def OutletBackSaid : Prop := outletBackRow.holds Try.pinned (OpenSpec.ofChange outletBackSpec)

/-- ITS FALSE NEIGHBOUR: 'it returns false'. Refute it at one input. -/
def outletBackWrong : ChangeSpec := { name := "outletBack", fn := fun _ => fun
  | [d] => { results := [.lit (.bool false)], args := [d] }
  | _ => none }
def OutletBackWrongFalsely : Prop := outletBackRow.holds Try.pinned (OpenSpec.ofChange outletBackWrong)

/- THE SECOND FORM. 'bulk': how many values and letters a reading holds, each counted each time it is reached (what is shared counts as often as it is met; a slice's spare places count too). A statement '..UptoSaid' is the law's where the arguments, and the package variables that the reading takes, are together of bulk at most 1048576: NARROWER than '..Said'. Prove '..Said' where nothing that the law and all that it calls make is longer than what came in: it says more and counts as full. Else prove '..UptoSaid'. A law counts once. -/
mutual
def uptoBulk {H : Type} : DataW H → Nat
  | .lit (.string bytes) => bytes.length + 1
  | .lit _ => 1
  | .nil => 1
  | .ptr d => uptoBulk d + 1
  | .slice elems spare => uptoBulkAll elems + uptoBulkAll spare + 1
  | .agg parts => uptoBulkAll parts + 1
  | .iface _ d => uptoBulk d + 1
  | .map entries => uptoBulkEntries entries + 1
  | .held _ => 1
def uptoBulkAll {H : Type} : List (DataW H) → Nat
  | [] => 0
  | d :: r => uptoBulk d + uptoBulkAll r
def uptoBulkEntries {H : Type} : List (Lit × DataW H) → Nat
  | [] => 0
  | x :: r => uptoBulkEntry x + uptoBulkEntries r
def uptoBulkEntry {H : Type} : Lit × DataW H → Nat
  | (.string bytes, d) => bytes.length + uptoBulk d + 1
  | (_, d) => uptoBulk d + 1
 end
def uptoSmall : (H : Type) → List (DataW H) → Bool := fun _ ds => decide (uptoBulkAll ds ≤ 1048576)
def OpenSpec.upto (s : _root_.Go.ChangeSpec) : _root_.Go.OpenSpec := { _root_.Go.OpenSpec.ofChange s with cond := some uptoSmall }

/-- 'rescriptlaw05.OutletWrites', WHERE WHAT IT READS IS OF BULK AT MOST 1048576: true; the input reads as it did. -/
def outletWritesUptoRow : OpenClaim := { program := "ytakogncnkbgkfaa", sum := "ea361dceca858fe8ea92f642b239edb6fed050d94fd5f525087149b3da394137", func := "rescript/rescriptlaw05.OutletWrites", spec := "outletWrites", unfollowed := true, recurses := true, apart := false, narrowed := true }
def OutletWritesUptoSaid : Prop := outletWritesUptoRow.holds Try.pinned (OpenSpec.upto outletWritesSpec)

/-- 'rescriptlaw05.OutletAll', WHERE WHAT IT READS IS OF BULK AT MOST 1048576: true; the input reads as it did. -/
def outletAllUptoRow : OpenClaim := { program := "ytakogncnkbgkfaa", sum := "ea361dceca858fe8ea92f642b239edb6fed050d94fd5f525087149b3da394137", func := "rescript/rescriptlaw05.OutletAll", spec := "outletAll", unfollowed := true, recurses := true, apart := false, narrowed := true }
def OutletAllUptoSaid : Prop := outletAllUptoRow.holds Try.pinned (OpenSpec.upto outletAllSpec)

/-- 'rescriptlaw04.InletReads', WHERE WHAT IT READS IS OF BULK AT MOST 1048576: true; the input reads as it did. -/
def inletReadsUptoRow : OpenClaim := { program := "ytakogncnkbgkfaa", sum := "ea361dceca858fe8ea92f642b239edb6fed050d94fd5f525087149b3da394137", func := "rescript/rescriptlaw04.InletReads", spec := "inletReads", unfollowed := true, recurses := true, apart := false, narrowed := true }
def InletReadsUptoSaid : Prop := inletReadsUptoRow.holds Try.pinned (OpenSpec.upto inletReadsSpec)

/-- 'rescriptlaw04.InletStays', WHERE WHAT IT READS IS OF BULK AT MOST 1048576: true; the input reads as it did. -/
def inletStaysUptoRow : OpenClaim := { program := "ytakogncnkbgkfaa", sum := "ea361dceca858fe8ea92f642b239edb6fed050d94fd5f525087149b3da394137", func := "rescript/rescriptlaw04.InletStays", spec := "inletStays", unfollowed := true, recurses := true, apart := false, narrowed := true }
def InletStaysUptoSaid : Prop := inletStaysUptoRow.holds Try.pinned (OpenSpec.upto inletStaysSpec)

/-- 'rescriptlaw05.OutletBack', WHERE WHAT IT READS IS OF BULK AT MOST 1048576: true; the input reads as it did. -/
def outletBackUptoRow : OpenClaim := { program := "ytakogncnkbgkfaa", sum := "ea361dceca858fe8ea92f642b239edb6fed050d94fd5f525087149b3da394137", func := "rescript/rescriptlaw05.OutletBack", spec := "outletBack", unfollowed := true, recurses := true, apart := false, narrowed := true }
def OutletBackUptoSaid : Prop := outletBackUptoRow.holds Try.pinned (OpenSpec.upto outletBackSpec)

end Rows
end Go.Proofs.Ytakogncnkbgkfaa
