/- Arguments that are frames, or slices of frames. -/
import Derived.Test.YtcibhkiddeggmaaOpn
import Derived.Test.YtcibhkiddeggmaaFrP
namespace Go.Proofs.Ytcibhkiddeggmaa
open Go Go.RowKit Go.WideShapes Go.ChangeShapes Go.ChangeAt Go.Shelf Go.Deep
section
variable {H : Type} {enc : TypeId × Value → H}
set_option maxRecDepth 100000 in
/-- two cells that read as a frame -/
theorem trod_frame {W : World} {n : Nat} {cs : List Value} {d : DataW H × List MemPlace} (hl : cs.length = 2) (h : DataW.trod enc Try.prog W 0 (fun _ => true) true n 24 cs = some d) :
    ∃ (f : Frm) (v : Value), cs = [.int .u8 (f.1.toNat : Int), v] ∧ Bs W v f.2 := by
  obtain ⟨ys, m, -, -, -, hyl, hf⟩ := DataW.trod_struct Try.underlying24 h
  match cs, hl, ys, hyl with
  | [c0, c1], _, [y0, y1], _ =>
    obtain ⟨z0, rfl, b0⟩ := trod_u8 (c := c0) (hf 0 _ rfl)
    obtain ⟨B, hB⟩ := trod_bytes (c := c1) (hf 1 _ rfl)
    refine ⟨(UInt8.ofNat z0, B), c1, ?_, hB⟩
    rw [ofNat_u8 z0 b0]
set_option maxRecDepth 100000 in
theorem open_frame {W : World} {b0 : Nat} {v : Value} {d : DataW H} {p : List MemPlace} (hv : Value.okWide Try.prog W .any b0 24 v) (h : DataW.Trod enc Try.prog W 0 (fun _ => true) true 24 v d p) :
    ∃ f : Frm, ∃ u : Value, v = frV f.1 u ∧ Bs W u f.2 := by
  obtain ⟨cs, rfl, hc⟩ := okWide_struct Try.underlying24 hv
  obtain ⟨fuel, hf⟩ := h
  have h2 : Try.prog.cellsOf 24 = 2 := by kernel_rfl
  obtain ⟨f, u, e, hB⟩ := trod_frame (cs := (Value.agg cs).cells.toList) (by simp [Value.cells]; omega) hf
  refine ⟨f, u, ?_, hB⟩
  have : cs.toList = [.int .u8 (f.1.toNat : Int), u] := by simpa [Value.cells] using e
  cases cs
  simp at this
  rw [this]
end
end Go.Proofs.Ytcibhkiddeggmaa
