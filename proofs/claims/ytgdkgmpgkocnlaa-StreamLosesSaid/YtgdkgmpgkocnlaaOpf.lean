/- Arguments that are frames, or slices of frames. -/
import Derived.Test.YtgdkgmpgkocnlaaOpn
import Derived.Test.YtgdkgmpgkocnlaaFrS
namespace Go.Proofs.Ytgdkgmpgkocnlaa
open Go Go.RowKit Go.WideShapes Go.ChangeShapes Go.ChangeAt Go.Shelf Go.Deep
section
variable {H : Type} {enc : TypeId × Value → H}
set_option maxRecDepth 100000 in
/-- two cells that read as a frame -/
theorem trod_frame {W : World} {n : Nat} {cs : List Value} {d : DataW H × List MemPlace} (hl : cs.length = 2) (h : DataW.trod enc Try.prog W 0 (fun _ => true) true n 29 cs = some d) :
    ∃ (f : Frm) (v : Value), cs = [.int .u8 (f.1.toNat : Int), v] ∧ Bs W v f.2 := by
  obtain ⟨ys, m, -, -, -, hyl, hf⟩ := DataW.trod_struct Try.underlying29 h
  match cs, hl, ys, hyl with
  | [c0, c1], _, [y0, y1], _ =>
    obtain ⟨z0, rfl, b0⟩ := trod_u8 (c := c0) (hf 0 _ rfl)
    obtain ⟨B, hB⟩ := trod_bytes (c := c1) (hf 1 _ rfl)
    refine ⟨(UInt8.ofNat z0, B), c1, ?_, hB⟩
    rw [ofNat_u8 z0 b0]
set_option maxRecDepth 100000 in
theorem open_frame {W : World} {b0 : Nat} {v : Value} {d : DataW H} {p : List MemPlace} (hv : Value.okWide Try.prog W .any b0 29 v) (h : DataW.Trod enc Try.prog W 0 (fun _ => true) true 29 v d p) :
    ∃ f : Frm, ∃ u : Value, v = frV f.1 u ∧ Bs W u f.2 := by
  obtain ⟨cs, rfl, hc⟩ := okWide_struct Try.underlying29 hv
  obtain ⟨fuel, hf⟩ := h
  have h2 : Try.prog.cellsOf 29 = 2 := by kernel_rfl
  obtain ⟨f, u, e, hB⟩ := trod_frame (cs := (Value.agg cs).cells.toList) (by simp [Value.cells]; omega) hf
  refine ⟨f, u, ?_, hB⟩
  have : cs.toList = [.int .u8 (f.1.toNat : Int), u] := by simpa [Value.cells] using e
  cases cs
  simp at this
  rw [this]
set_option maxRecDepth 100000 in
/-- a slice of frames: each with its payload's slice value -/
theorem open_frames {W : World} {b0 : Nat} {v : Value} {d : DataW H} {p : List MemPlace} (hv : Value.okWide Try.prog W .any b0 22 v) (h : DataW.Trod enc Try.prog W 0 (fun _ => true) true 22 v d p) :
    ∃ A : List (Frm × Value), Sl W v A.length 2 (A.flatMap fun x => [.int .u8 (x.1.1.toNat : Int), x.2]) ∧ ∀ x ∈ A, Bs W x.2 x.1.2 := by
  refine open_rows Try.underlying22 (by kernel_rfl) (fun x : Frm × Value => [.int .u8 (x.1.1.toNat : Int), x.2]) (fun _ => rfl) (fun x => Bs W x.2 x.1.2) ?_ hv h
  intro n cs d hl hd
  obtain ⟨f, u, e, hB⟩ := trod_frame hl hd
  exact ⟨(f, u), e, hB⟩
end
end Go.Proofs.Ytgdkgmpgkocnlaa
