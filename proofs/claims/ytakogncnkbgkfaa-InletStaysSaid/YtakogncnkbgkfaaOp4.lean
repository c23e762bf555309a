/- The argument of asks of layer 4. -/
import Derived.Test.YtakogncnkbgkfaaOpn
import Derived.Test.YtakogncnkbgkfaaInz
namespace Go.Proofs.Ytakogncnkbgkfaa
open Go Go.RowKit Go.WideShapes Go.ChangeShapes Go.ChangeAt Go.Shelf Go.Deep
section
variable {H : Type} {enc : TypeId × Value → H}
set_option maxRecDepth 100000 in
theorem open_asks4 {W : World} {b0 : Nat} {v : Value} {d : DataW H} {p : List MemPlace} (hv : Value.okWide Try.prog W .any b0 48 v) (h : DataW.Trod enc Try.prog W 0 (fun _ => true) true 48 v d p) :
    ∃ A : List Ask4, Sl W v A.length 2 (asks4V A) ∧ ∀ a ∈ A, Ask4.ok a := by
  refine open_rows Try.underlying48 (by kernel_rfl) ask4V (fun _ => rfl) Ask4.ok ?_ hv h
  intro n cs d hl hd
  obtain ⟨y0, y1, m, -, -, h0, h1⟩ := trod_struct2 Try.underlying56 hd
  match cs, hl with
  | [c0, c1], _ =>
    obtain ⟨z0, rfl, b0⟩ := trod_u8 (c := c0) h0
    obtain ⟨z1, rfl, b1, b2⟩ := trod_i64 (c := c1) h1
    exact ⟨(z0, z1), rfl, b0, b1, b2⟩
end
end Go.Proofs.Ytakogncnkbgkfaa
