/- The argument of asks of layer 5. -/
import Derived.Test.YtakogncnkbgkfaaOpn
import Derived.Test.YtakogncnkbgkfaaOdk
namespace Go.Proofs.Ytakogncnkbgkfaa
open Go Go.RowKit Go.WideShapes Go.ChangeShapes Go.ChangeAt Go.Shelf Go.Deep
section
variable {H : Type} {enc : TypeId × Value → H}
set_option maxRecDepth 100000 in
theorem trod_u64 {W : World} {n : Nat} {c : Value} {y : DataW H × List MemPlace} (h : DataW.trod enc Try.prog W 0 (fun _ => true) true n 33 [c] = some y) : ∃ z : Nat, c = .int .u64 z ∧ z < 18446744073709551616 := by
  obtain ⟨z, e, -, wf⟩ := DataW.trod_int Try.underlying33 h
  have b := bounds_u64 wf
  simp at e
  obtain ⟨m, rfl⟩ := Int.eq_ofNat_of_zero_le b.1
  exact ⟨m, e, by omega⟩
set_option maxRecDepth 100000 in
theorem open_asks5 {W : World} {b0 : Nat} {v : Value} {d : DataW H} {p : List MemPlace} (hv : Value.okWide Try.prog W .any b0 22 v) (h : DataW.Trod enc Try.prog W 0 (fun _ => true) true 22 v d p) :
    ∃ A : List Ask5, Sl W v A.length 5 (A.flatMap ask5V) ∧ ∀ a ∈ A, Ask5.ok W a := by
  refine open_rows Try.underlying22 (by kernel_rfl) ask5V (fun _ => rfl) (Ask5.ok W) ?_ hv h
  intro n cs d hl hd
  obtain ⟨ys, m, -, -, -, hyl, hf⟩ := DataW.trod_struct Try.underlying35 hd
  match cs, hl, ys, hyl with
  | [c0, c1, c2, c3, c4], _, [y0, y1, y2, y3, y4], _ =>
    obtain ⟨z0, rfl, b0⟩ := trod_u8 (c := c0) (hf 0 _ rfl)
    obtain ⟨z1, rfl, b1⟩ := trod_u64 (c := c1) (hf 1 _ rfl)
    obtain ⟨z2, rfl, b2, b3⟩ := trod_i64 (c := c2) (hf 2 _ rfl)
    obtain ⟨z3, rfl, b4⟩ := trod_u8 (c := c3) (hf 3 _ rfl)
    obtain ⟨B, hB⟩ := trod_bytes (c := c4) (hf 4 _ rfl)
    exact ⟨⟨z0, z1, z2, z3, c4, B⟩, rfl, b0, b1, b2, b3, b4, hB⟩
end
end Go.Proofs.Ytakogncnkbgkfaa
