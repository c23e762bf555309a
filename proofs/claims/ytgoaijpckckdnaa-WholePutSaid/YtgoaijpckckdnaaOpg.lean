/- Arguments that are slices of fields. -/
import Derived.Test.YtgoaijpckckdnaaOpn
import Derived.Test.YtgoaijpckckdnaaSkP
import Derived.Test.YtgoaijpckckdnaaFld
namespace Go.Proofs.Ytgoaijpckckdnaa
open Go Go.RowKit Go.WideShapes Go.ChangeShapes Go.ChangeAt Go.Shelf Go.Deep
section
variable {H : Type} {enc : TypeId × Value → H}
set_option maxRecDepth 100000 in
theorem trod_u64 {W : World} {n : Nat} {c : Value} {y : DataW H × List MemPlace} (h : DataW.trod enc Try.prog W 0 (fun _ => true) true n 37 [c] = some y) : ∃ z : Nat, c = .int .u64 z ∧ z < 18446744073709551616 := by
  obtain ⟨z, e, -, wf⟩ := DataW.trod_int Try.underlying37 h
  have b := bounds_u64 wf
  simp at e
  obtain ⟨m, rfl⟩ := Int.eq_ofNat_of_zero_le b.1
  exact ⟨m, e, by omega⟩
set_option maxRecDepth 100000 in
/-- five cells that read as a field -/
theorem trod_field {W : World} {n : Nat} {cs : List Value} {d : DataW H × List MemPlace} (hl : cs.length = 5) (h : DataW.trod enc Try.prog W 0 (fun _ => true) true n 39 cs = some d) :
    ∃ p : FFV, cs = ffv p ∧ Bs W p.2 (fB p.1) ∧ p.1.ok := by
  obtain ⟨ys, m, -, -, -, hyl, hf⟩ := DataW.trod_struct Try.underlying39 h
  match cs, hl, ys, hyl with
  | [c0, c1, c2, c3, c4], _, [y0, y1, y2, y3, y4], _ =>
    obtain ⟨z0, rfl, a0, b0⟩ := trod_i64 (c := c0) (hf 0 _ rfl)
    obtain ⟨z1, rfl, b1⟩ := trod_u8 (c := c1) (hf 1 _ rfl)
    obtain ⟨z2, rfl, b2⟩ := trod_u64 (c := c2) (hf 2 _ rfl)
    obtain ⟨B, hB⟩ := trod_bytes (c := c3) (hf 3 _ rfl)
    obtain ⟨z4, rfl, a4, b4⟩ := trod_i64 (c := c4) (hf 4 _ rfl)
    exact ⟨((z0, z1, z2, B, z4), c3), rfl, hB, a0, b0, b1, b2⟩
set_option maxRecDepth 100000 in
theorem open_fields {W : World} {b0 : Nat} {v : Value} {d : DataW H} {p : List MemPlace} (hv : Value.okWide Try.prog W .any b0 24 v) (h : DataW.Trod enc Try.prog W 0 (fun _ => true) true 24 v d p) :
    ∃ A : List FFV, FlR W v A ∧ ∀ x ∈ A, x.1.ok := by
  obtain ⟨A, h1, h2⟩ := open_rows Try.underlying24 (by kernel_rfl) ffv (fun _ => rfl) (fun x => Bs W x.2 (fB x.1) ∧ x.1.ok) (fun n cs d hl hd => by
    obtain ⟨q, e, hB, hok⟩ := trod_field hl hd
    exact ⟨q, e, hB, hok⟩) hv h
  exact ⟨A, ⟨h1, fun x hx => (h2 x hx).1⟩, fun x hx => (h2 x hx).2⟩
end
end Go.Proofs.Ytgoaijpckckdnaa
