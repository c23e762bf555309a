/- A message's numbers are of 64 bits. -/
import Derived.Test.YtgoaijpckckdnaaOpm
import Derived.Test.YtgoaijpckckdnaaEn7
namespace Go.Proofs.Ytgoaijpckckdnaa
open Go Go.RowKit Go.WideShapes Go.ChangeShapes Go.ChangeAt Go.Shelf
section
variable {H : Type} {enc : TypeId × Value → H}
theorem trod_u64b {W : World} {n z : Nat} {y : DataW H × List MemPlace} (h : DataW.trod enc Try.prog W 0 (fun _ => true) true n 37 [.int .u64 (z : Nat)] = some y) : z < 18446744073709551616 := by
  obtain ⟨z', e, -, wf⟩ := DataW.trod_int Try.underlying37 h
  have b := bounds_u64 wf
  simp at e
  omega
set_option maxRecDepth 100000 in
theorem open_msgN {W : World} {m : Msg} {lv : Value} {d : DataW H} {p : List MemPlace} (h : DataW.Trod enc Try.prog W 0 (fun _ => true) true 57 (.agg (msgA m lv)) d p) : ∀ i, i < 6 → m.n i < 18446744073709551616 := by
  obtain ⟨fuel, hf⟩ := h
  obtain ⟨ys, k, -, -, -, hyl, hf⟩ := DataW.trod_struct Try.underlying57 hf
  match ys, hyl with
  | [y0, y1, y2, y3], _ =>
    have h1 : DataW.trod enc Try.prog W 0 (fun _ => true) true k 53 [.int .u64 (m.n 0), .int .u64 (m.n 1), .int .u64 (m.n 2), .int .u64 (m.n 3), .int .u64 (m.n 4), .int .u64 (m.n 5)] = some y1 := hf 1 _ rfl
    obtain ⟨xs, k1, -, -, -, hxl, hx⟩ := DataW.trod_array Try.underlying53 h1
    have hce : Try.prog.cellsOf 37 = 1 := by kernel_rfl
    rw [hce] at hx
    match xs, hxl with
    | [x1, x2, x3, x4, x5, x6], _ =>
      have q0 := trod_u64b (hx 0 (by omega))
      have q1 := trod_u64b (hx 1 (by omega))
      have q2 := trod_u64b (hx 2 (by omega))
      have q3 := trod_u64b (hx 3 (by omega))
      have q4 := trod_u64b (hx 4 (by omega))
      have q5 := trod_u64b (hx 5 (by omega))
      intro i hi
      rcases (show i = 0 ∨ i = 1 ∨ i = 2 ∨ i = 3 ∨ i = 4 ∨ i = 5 by omega) with rfl | rfl | rfl | rfl | rfl | rfl <;> assumption
end
theorem wparts_law (m : Msg) (v : Value) (ver : Int) (w : World) (hm : MsgR w v m) (hn : ∀ i, i < 6 → m.n i < 18446744073709551616) :
    Calls Try.prog 14 #[v, .int .i64 ver] w fun e w' => e = .returned (.bool true) ∧ Grew w w' := by
  obtain ⟨lv, rfl, hl, -⟩ := hm
  obtain ⟨a, c, rfl⟩ := tx_len hl
  exact wparts_walk m a c ver w hn hl
end Go.Proofs.Ytgoaijpckckdnaa
