/- Arguments that are slices of numbers, of edits, of slices of bytes. -/
import Derived.Test.YtgdkgmpgkocnlaaOpf
import Derived.Test.YtgdkgmpgkocnlaaStC
namespace Go.Proofs.Ytgdkgmpgkocnlaa
open Go Go.RowKit Go.WideShapes Go.ChangeShapes Go.ChangeAt Go.Shelf Go.Deep
theorem flat_one {α β : Type} (f : α → β) (l : List α) : (l.flatMap fun z => [f z]) = l.map f := by
  induction l with
  | nil => rfl
  | cons x l ih => simp [ih]
section
variable {H : Type} {enc : TypeId × Value → H}
set_option maxRecDepth 100000 in
theorem open_intsS {W : World} {b0 : Nat} {v : Value} {d : DataW H} {p : List MemPlace} (hv : Value.okWide Try.prog W .any b0 48 v) (h : DataW.Trod enc Try.prog W 0 (fun _ => true) true 48 v d p) :
    ∃ s : List Int, Sl W v s.length 1 (iiv s) ∧ ∀ z ∈ s, -9223372036854775808 ≤ z ∧ z ≤ 9223372036854775807 := by
  obtain ⟨s, h1, h2⟩ := open_rows Try.underlying48 (by kernel_rfl) (fun z : Int => [Value.int .i64 z]) (fun _ => rfl) (fun z => -9223372036854775808 ≤ z ∧ z ≤ 9223372036854775807) (fun n cs d hl hd => by
    match cs, hl with
    | [c], _ =>
      obtain ⟨z, rfl, b1, b2⟩ := trod_i64 hd
      exact ⟨z, rfl, b1, b2⟩) hv h
  rw [flat_one] at h1
  exact ⟨s, h1, h2⟩
end
end Go.Proofs.Ytgdkgmpgkocnlaa
