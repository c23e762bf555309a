/- Arguments that are slices of fields. -/
import Derived.Test.YtbjoohafgkodcaaOpn
import Derived.Test.YtbjoohafgkodcaaSkB
import Derived.Test.YtbjoohafgkodcaaFld
namespace Go.Proofs.Ytbjoohafgkodcaa
open Go Go.RowKit Go.WideShapes Go.ChangeShapes Go.ChangeAt Go.Shelf Go.Deep
section
variable {H : Type} {enc : TypeId × Value → H}
set_option maxRecDepth 100000 in
theorem trod_u64 {W : World} {n : Nat} {c : Value} {y : DataW H × List MemPlace} (h : DataW.trod enc Try.prog W 0 (fun _ => true) true n 24 [c] = some y) : ∃ z : Nat, c = .int .u64 z ∧ z < 18446744073709551616 := by
  obtain ⟨z, e, -, wf⟩ := DataW.trod_int Try.underlying24 h
  have b := bounds_u64 wf
  simp at e
  obtain ⟨m, rfl⟩ := Int.eq_ofNat_of_zero_le b.1
  exact ⟨m, e, by omega⟩
set_option maxRecDepth 100000 in
/-- five cells that read as a field -/
theorem trod_field {W : World} {n : Nat} {cs : List Value} {d : DataW H × List MemPlace} (hl : cs.length = 5) (h : DataW.trod enc Try.prog W 0 (fun _ => true) true n 44 cs = some d) :
    ∃ p : FFV, cs = ffv p ∧ Bs W p.2 (fB p.1) ∧ p.1.ok := by
  obtain ⟨ys, m, -, -, -, hyl, hf⟩ := DataW.trod_struct Try.underlying44 h
  match cs, hl, ys, hyl with
  | [c0, c1, c2, c3, c4], _, [y0, y1, y2, y3, y4], _ =>
    obtain ⟨z0, rfl, a0, b0⟩ := trod_i64 (c := c0) (hf 0 _ rfl)
    obtain ⟨z1, rfl, b1⟩ := trod_u8 (c := c1) (hf 1 _ rfl)
    obtain ⟨z2, rfl, b2⟩ := trod_u64 (c := c2) (hf 2 _ rfl)
    obtain ⟨B, hB⟩ := trod_bytes (c := c3) (hf 3 _ rfl)
    obtain ⟨z4, rfl, a4, b4⟩ := trod_i64 (c := c4) (hf 4 _ rfl)
    exact ⟨((z0, z1, z2, B, z4), c3), rfl, hB, a0, b0, b1, b2⟩
set_option maxRecDepth 100000 in
theorem open_fields {W : World} {b0 : Nat} {v : Value} {d : DataW H} {p : List MemPlace} (hv : Value.okWide Try.prog W .any b0 36 v) (h : DataW.Trod enc Try.prog W 0 (fun _ => true) true 36 v d p) :
    ∃ A : List FFV, FlR W v A ∧ ∀ x ∈ A, x.1.ok := by
  obtain ⟨A, h1, h2⟩ := open_rows Try.underlying36 (by kernel_rfl) ffv (fun _ => rfl) (fun x => Bs W x.2 (fB x.1) ∧ x.1.ok) (fun n cs d hl hd => by
    obtain ⟨q, e, hB, hok⟩ := trod_field hl hd
    exact ⟨q, e, hB, hok⟩) hv h
  exact ⟨A, ⟨h1, fun x hx => (h2 x hx).1⟩, fun x hx => (h2 x hx).2⟩
set_option maxRecDepth 100000 in
theorem open_field {W : World} {b0 : Nat} {v : Value} {d : DataW H} {p : List MemPlace} (hv : Value.okWide Try.prog W .any b0 44 v) (h : DataW.Trod enc Try.prog W 0 (fun _ => true) true 44 v d p) :
    ∃ q : FFV, v = fldA q.1 q.2 ∧ Bs W q.2 (fB q.1) ∧ q.1.ok := by
  obtain ⟨cs, rfl, hc⟩ := okWide_struct Try.underlying44 hv
  obtain ⟨fuel, hf⟩ := h
  have h2 : Try.prog.cellsOf 44 = 5 := by kernel_rfl
  have hcs : (Value.agg cs).cells.toList = cs.toList := by simp [Value.cells]
  rw [hcs] at hf
  obtain ⟨q, e, hB, hok⟩ := trod_field (by simp; omega) hf
  refine ⟨q, ?_, hB, hok⟩
  have : cs = (ffv q).toArray := Array.toList_inj.1 (by rw [e])
  rw [this]
  rfl
end
end Go.Proofs.Ytbjoohafgkodcaa
