/-
  No cell of these rows narrows 'for every input' (looked for: loops, veiled, ifaces, maps, wideKeys, modest, calm, conditions, laid).
  DERIVED. THE GIVEN ROWS OF THIS SEAT. 4 by the template 'for every input the law returns true; each argument reads behind the call as it read before'; 0 by the template 'total and deterministic' (their statements: YtciihinonoamlaaTotals.lean).
  GIVEN WITH THE SEED: the statements are not yours to turn. If you find one false, say at which input.
  Laid BY PROGRAM, IN A SANDBOX (cutbox-rows.mjs): the forced cells as the released guide's own fill.sh prints them over the translation a65e31b3c961aaec… (all of the seat's roots in one cut). By AI agents, Wed Nov 11 2026. No macro, syntax, notation, axiom, sorry.
-/
import Derived.Test.YtciihinonoamlaaChecked
import GoSem.Claim
import GoSem.ClaimJoined
import GoSem.ClaimMapViews
import Derived.JoinedTies
import Derived.KernelRfl
namespace Go.Proofs.Ytciihinonoamlaa
/- THE CELL 'sum', in the pinned program and in every row, IS THE sha256 OF THE DUMP (.gsa) THAT YtciihinonoamlaaProg.lean LOADS. Nothing in Lean hashes anything: it is a label: what it is worth is what the hold of that sum in a sandbox is worth. -/
noncomputable def Try.pinned : Pinned := { name := "ytciihinonoamlaa", sum := "a65e31b3c961aaec6bab4d8df487ba56d701a0fefaaae37de55aa6632797a9eb", checked := Try.checked }
namespace Rows
def none {H : Type} : Left H := { results := [], args := [] }

/-- 'rescriptlaw08.SchemaTells': WHATEVER THE INPUT: true; the input reads as it did. -/
def schemaTellsSpec : ChangeSpec := { name := "schemaTells", fn := fun _ => fun
  | [d1, d2, d3] => { results := [.lit (.bool true)], args := [d1, d2, d3] }
  | _ => none }
def schemaTellsRow : OpenClaim := { program := "ytciihinonoamlaa", sum := "a65e31b3c961aaec6bab4d8df487ba56d701a0fefaaae37de55aa6632797a9eb", func := "rescript/rescriptlaw08.SchemaTells", spec := "schemaTells", unfollowed := true, recurses := true, apart := false }
def SchemaTellsSaid : Prop := schemaTellsRow.holds Try.pinned (OpenSpec.ofChange schemaTellsSpec)

/-- ITS FALSE NEIGHBOUR: 'it returns false'. Refute it at one input. -/
def schemaTellsWrong : ChangeSpec := { name := "schemaTells", fn := fun _ => fun
  | [d1, d2, d3] => { results := [.lit (.bool false)], args := [d1, d2, d3] }
  | _ => none }
def SchemaTellsWrongFalsely : Prop := schemaTellsRow.holds Try.pinned (OpenSpec.ofChange schemaTellsWrong)

/-- 'rescriptlaw08.SchemaTypes': WHATEVER THE INPUT: true; the input reads as it did. -/
def schemaTypesSpec : ChangeSpec := { name := "schemaTypes", fn := fun _ => fun
  | [d] => { results := [.lit (.bool true)], args := [d] }
  | _ => none }
def schemaTypesRow : OpenClaim := { program := "ytciihinonoamlaa", sum := "a65e31b3c961aaec6bab4d8df487ba56d701a0fefaaae37de55aa6632797a9eb", func := "rescript/rescriptlaw08.SchemaTypes", spec := "schemaTypes", unfollowed := true, recurses := true, apart := false }
def SchemaTypesSaid : Prop := schemaTypesRow.holds Try.pinned (OpenSpec.ofChange schemaTypesSpec)

/-- ITS FALSE NEIGHBOUR: 'it returns false'. Refute it at one input. -/
def schemaTypesWrong : ChangeSpec := { name := "schemaTypes", fn := fun _ => fun
  | [d] => { results := [.lit (.bool false)], args := [d] }
  | _ => none }
def SchemaTypesWrongFalsely : Prop := schemaTypesRow.holds Try.pinned (OpenSpec.ofChange schemaTypesWrong)

/-- 'rescriptlaw08.SchemaWords': WHATEVER THE INPUT: true; the input reads as it did. -/
def schemaWordsSpec : ChangeSpec := { name := "schemaWords", fn := fun _ => fun
  | [d1, d2] => { results := [.lit (.bool true)], args := [d1, d2] }
  | _ => none }
def schemaWordsRow : OpenClaim := { program := "ytciihinonoamlaa", sum := "a65e31b3c961aaec6bab4d8df487ba56d701a0fefaaae37de55aa6632797a9eb", func := "rescript/rescriptlaw08.SchemaWords", spec := "schemaWords", unfollowed := true, recurses := true, apart := false }
def SchemaWordsSaid : Prop := schemaWordsRow.holds Try.pinned (OpenSpec.ofChange schemaWordsSpec)

/-- ITS FALSE NEIGHBOUR: 'it returns false'. Refute it at one input. -/
def schemaWordsWrong : ChangeSpec := { name := "schemaWords", fn := fun _ => fun
  | [d1, d2] => { results := [.lit (.bool false)], args := [d1, d2] }
  | _ => none }
def SchemaWordsWrongFalsely : Prop := schemaWordsRow.holds Try.pinned (OpenSpec.ofChange schemaWordsWrong)

/-- 'rescriptlaw08.SchemaGrows': WHATEVER THE INPUT: true; the input reads as it did. -/
def schemaGrowsSpec : ChangeSpec := { name := "schemaGrows", fn := fun _ => fun
  | [d1, d2, d3] => { results := [.lit (.bool true)], args := [d1, d2, d3] }
  | _ => none }
def schemaGrowsRow : OpenClaim := { program := "ytciihinonoamlaa", sum := "a65e31b3c961aaec6bab4d8df487ba56d701a0fefaaae37de55aa6632797a9eb", func := "rescript/rescriptlaw08.SchemaGrows", spec := "schemaGrows", unfollowed := true, recurses := true, apart := false }
def SchemaGrowsSaid : Prop := schemaGrowsRow.holds Try.pinned (OpenSpec.ofChange schemaGrowsSpec)

/-- ITS FALSE NEIGHBOUR: 'it returns false'. Refute it at one input. -/
def schemaGrowsWrong : ChangeSpec := { name := "schemaGrows", fn := fun _ => fun
  | [d1, d2, d3] => { results := [.lit (.bool false)], args := [d1, d2, d3] }
  | _ => none }
def SchemaGrowsWrongFalsely : Prop := schemaGrowsRow.holds Try.pinned (OpenSpec.ofChange schemaGrowsWrong)

/- THE SECOND FORM. 'bulk': how many values and letters a reading holds, each counted each time it is reached (what is shared counts as often as it is met; a slice's spare places count too). A statement '..UptoSaid' is the law's where the arguments, and the package variables that the reading takes, are together of bulk at most 1048576: NARROWER than '..Said'. Prove '..Said' where nothing that the law and all that it calls make is longer than what came in: it says more and counts as full. Else prove '..UptoSaid'. A law counts once. -/
mutual
def uptoBulk {H : Type} : DataW H → Nat
  | .lit (.string bytes) => bytes.length + 1
  | .lit _ => 1
  | .nil => 1
  | .ptr d => uptoBulk d + 1
  | .slice elems spare => uptoBulkAll elems + uptoBulkAll spare + 1
  | .agg parts => uptoBulkAll parts + 1
  | .iface _ d => uptoBulk d + 1
  | .map entries => uptoBulkEntries entries + 1
  | .held _ => 1
def uptoBulkAll {H : Type} : List (DataW H) → Nat
  | [] => 0
  | d :: r => uptoBulk d + uptoBulkAll r
def uptoBulkEntries {H : Type} : List (Lit × DataW H) → Nat
  | [] => 0
  | x :: r => uptoBulkEntry x + uptoBulkEntries r
def uptoBulkEntry {H : Type} : Lit × DataW H → Nat
  | (.string bytes, d) => bytes.length + uptoBulk d + 1
  | (_, d) => uptoBulk d + 1
 end
def uptoSmall : (H : Type) → List (DataW H) → Bool := fun _ ds => decide (uptoBulkAll ds ≤ 1048576)
def OpenSpec.upto (s : _root_.Go.ChangeSpec) : _root_.Go.OpenSpec := { _root_.Go.OpenSpec.ofChange s with cond := some uptoSmall }

/-- 'rescriptlaw08.SchemaTells', WHERE WHAT IT READS IS OF BULK AT MOST 1048576: true; the input reads as it did. -/
def schemaTellsUptoRow : OpenClaim := { program := "ytciihinonoamlaa", sum := "a65e31b3c961aaec6bab4d8df487ba56d701a0fefaaae37de55aa6632797a9eb", func := "rescript/rescriptlaw08.SchemaTells", spec := "schemaTells", unfollowed := true, recurses := true, apart := false, narrowed := true }
def SchemaTellsUptoSaid : Prop := schemaTellsUptoRow.holds Try.pinned (OpenSpec.upto schemaTellsSpec)

/-- 'rescriptlaw08.SchemaTypes', WHERE WHAT IT READS IS OF BULK AT MOST 1048576: true; the input reads as it did. -/
def schemaTypesUptoRow : OpenClaim := { program := "ytciihinonoamlaa", sum := "a65e31b3c961aaec6bab4d8df487ba56d701a0fefaaae37de55aa6632797a9eb", func := "rescript/rescriptlaw08.SchemaTypes", spec := "schemaTypes", unfollowed := true, recurses := true, apart := false, narrowed := true }
def SchemaTypesUptoSaid : Prop := schemaTypesUptoRow.holds Try.pinned (OpenSpec.upto schemaTypesSpec)

/-- 'rescriptlaw08.SchemaWords', WHERE WHAT IT READS IS OF BULK AT MOST 1048576: true; the input reads as it did. -/
def schemaWordsUptoRow : OpenClaim := { program := "ytciihinonoamlaa", sum := "a65e31b3c961aaec6bab4d8df487ba56d701a0fefaaae37de55aa6632797a9eb", func := "rescript/rescriptlaw08.SchemaWords", spec := "schemaWords", unfollowed := true, recurses := true, apart := false, narrowed := true }
def SchemaWordsUptoSaid : Prop := schemaWordsUptoRow.holds Try.pinned (OpenSpec.upto schemaWordsSpec)

/-- 'rescriptlaw08.SchemaGrows', WHERE WHAT IT READS IS OF BULK AT MOST 1048576: true; the input reads as it did. -/
def schemaGrowsUptoRow : OpenClaim := { program := "ytciihinonoamlaa", sum := "a65e31b3c961aaec6bab4d8df487ba56d701a0fefaaae37de55aa6632797a9eb", func := "rescript/rescriptlaw08.SchemaGrows", spec := "schemaGrows", unfollowed := true, recurses := true, apart := false, narrowed := true }
def SchemaGrowsUptoSaid : Prop := schemaGrowsUptoRow.holds Try.pinned (OpenSpec.upto schemaGrowsSpec)

end Rows
end Go.Proofs.Ytciihinonoamlaa
