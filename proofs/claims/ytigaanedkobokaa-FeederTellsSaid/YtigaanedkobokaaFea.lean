/- Arguments that are slices of asks (a flag, and a piece). -/
import Derived.Test.YtigaanedkobokaaOpn
import Derived.Test.YtigaanedkobokaaFe8
namespace Go.Proofs.Ytigaanedkobokaa
open Go Go.RowKit Go.WideShapes Go.ChangeShapes Go.ChangeAt Go.Shelf Go.Deep
section
variable {H : Type} {enc : TypeId × Value → H}
set_option maxRecDepth 100000 in
theorem open_asks {W : World} {b0 : Nat} {v : Value} {d : DataW H} {p : List MemPlace} (hv : Value.okWide Try.prog W .any b0 53 v) (h : DataW.Trod enc Try.prog W 0 (fun _ => true) true 53 v d p) :
    ∃ A : List AskF, AskFR W v A := by
  have key : ∀ n cs (d : DataW H × List MemPlace), cs.length = 2 → DataW.trod enc Try.prog W 0 (fun _ => true) true n 61 cs = some d → ∃ x : AskF, cs = askFV x ∧ Bs W x.v x.bs := by
    intro n cs d hl hd
    obtain ⟨ys, m, -, -, -, hyl, hf⟩ := DataW.trod_struct Try.underlying61 hd
    match cs, hl, ys, hyl with
    | [c0, c1], _, [y0, y1], _ =>
      obtain ⟨z0, e0, -⟩ := DataW.trod_bool (cs := [c0]) Try.underlying4 (hf 0 _ rfl)
      simp at e0
      subst e0
      obtain ⟨B, hB⟩ := trod_bytes (c := c1) (hf 1 _ rfl)
      exact ⟨⟨z0, B, c1⟩, rfl, hB⟩
  obtain ⟨A, h1, h2⟩ := open_rows Try.underlying53 (by kernel_rfl) askFV (fun _ => rfl) (fun x => Bs W x.v x.bs) key hv h
  exact ⟨A, h1, h2⟩
end
end Go.Proofs.Ytigaanedkobokaa
