/- Arguments that are slices of numbers, of edits, of slices of bytes. -/
import Derived.Test.YtoinndlialimcaaOpf
import Derived.Test.YtoinndlialimcaaStC
namespace Go.Proofs.Ytoinndlialimcaa
open Go Go.RowKit Go.WideShapes Go.ChangeShapes Go.ChangeAt Go.Shelf Go.Deep
theorem flat_one {α β : Type} (f : α → β) (l : List α) : (l.flatMap fun z => [f z]) = l.map f := by
  induction l with
  | nil => rfl
  | cons x l ih => simp [ih]
section
variable {H : Type} {enc : TypeId × Value → H}
set_option maxRecDepth 100000 in
theorem open_intsS {W : World} {b0 : Nat} {v : Value} {d : DataW H} {p : List MemPlace} (hv : Value.okWide Try.prog W .any b0 32 v) (h : DataW.Trod enc Try.prog W 0 (fun _ => true) true 32 v d p) :
    ∃ s : List Int, Sl W v s.length 1 (iiv s) ∧ ∀ z ∈ s, -9223372036854775808 ≤ z ∧ z ≤ 9223372036854775807 := by
  obtain ⟨s, h1, h2⟩ := open_rows Try.underlying32 (by kernel_rfl) (fun z : Int => [Value.int .i64 z]) (fun _ => rfl) (fun z => -9223372036854775808 ≤ z ∧ z ≤ 9223372036854775807) (fun n cs d hl hd => by
    match cs, hl with
    | [c], _ =>
      obtain ⟨z, rfl, b1, b2⟩ := trod_i64 hd
      exact ⟨z, rfl, b1, b2⟩) hv h
  rw [flat_one] at h1
  exact ⟨s, h1, h2⟩
set_option maxRecDepth 100000 in
theorem trod_edit {W : World} {n : Nat} {cs : List Value} {d : DataW H × List MemPlace} (hl : cs.length = 5) (h : DataW.trod enc Try.prog W 0 (fun _ => true) true n 26 cs = some d) :
    ∃ x : EA, cs = edv x ∧ Bs W x.2 x.1.bytes ∧ (-9223372036854775808 ≤ x.1.kind ∧ x.1.kind ≤ 9223372036854775807) ∧ (-9223372036854775808 ≤ x.1.at' ∧ x.1.at' ≤ 9223372036854775807) ∧ (-9223372036854775808 ≤ x.1.n ∧ x.1.n ≤ 9223372036854775807) ∧ (-9223372036854775808 ≤ x.1.to ∧ x.1.to ≤ 9223372036854775807) := by
  obtain ⟨ys, m, -, -, -, hyl, hf⟩ := DataW.trod_struct Try.underlying26 h
  match cs, hl, ys, hyl with
  | [c0, c1, c2, c3, c4], _, [y0, y1, y2, y3, y4], _ =>
    obtain ⟨z0, rfl, b0⟩ := trod_i64 (c := c0) (hf 0 _ rfl)
    obtain ⟨z1, rfl, b1⟩ := trod_i64 (c := c1) (hf 1 _ rfl)
    obtain ⟨z2, rfl, b2⟩ := trod_i64 (c := c2) (hf 2 _ rfl)
    obtain ⟨z3, rfl, b3⟩ := trod_i64 (c := c3) (hf 3 _ rfl)
    obtain ⟨B, hB⟩ := trod_bytes (c := c4) (hf 4 _ rfl)
    exact ⟨(⟨z0, z1, z2, z3, B⟩, c4), rfl, hB, b0, b1, b2, b3⟩
set_option maxRecDepth 100000 in
theorem open_editsS {W : World} {b0 : Nat} {v : Value} {d : DataW H} {p : List MemPlace} (hv : Value.okWide Try.prog W .any b0 23 v) (h : DataW.Trod enc Try.prog W 0 (fun _ => true) true 23 v d p) :
    ∃ A : List EA, Sl W v A.length 5 (A.flatMap edv) ∧ ∀ x ∈ A, Bs W x.2 x.1.bytes ∧ (-9223372036854775808 ≤ x.1.kind ∧ x.1.kind ≤ 9223372036854775807) ∧ (-9223372036854775808 ≤ x.1.at' ∧ x.1.at' ≤ 9223372036854775807) ∧ (-9223372036854775808 ≤ x.1.n ∧ x.1.n ≤ 9223372036854775807) ∧ (-9223372036854775808 ≤ x.1.to ∧ x.1.to ≤ 9223372036854775807) :=
  open_rows Try.underlying23 (by kernel_rfl) edv (fun _ => rfl) (fun x : EA => Bs W x.2 x.1.bytes ∧ (-9223372036854775808 ≤ x.1.kind ∧ x.1.kind ≤ 9223372036854775807) ∧ (-9223372036854775808 ≤ x.1.at' ∧ x.1.at' ≤ 9223372036854775807) ∧ (-9223372036854775808 ≤ x.1.n ∧ x.1.n ≤ 9223372036854775807) ∧ (-9223372036854775808 ≤ x.1.to ∧ x.1.to ≤ 9223372036854775807)) (fun _ _ _ hl hd => trod_edit hl hd) hv h
set_option maxRecDepth 100000 in
theorem open_junkS {W : World} {b0 : Nat} {v : Value} {d : DataW H} {p : List MemPlace} (hv : Value.okWide Try.prog W .any b0 33 v) (h : DataW.Trod enc Try.prog W 0 (fun _ => true) true 33 v d p) :
    ∃ J : List Pc, Sl W v J.length 1 (J.map (·.1)) ∧ ∀ x ∈ J, Bs W x.1 x.2 := by
  obtain ⟨s, h1, h2⟩ := open_rows Try.underlying33 (by kernel_rfl) (fun x : Pc => [x.1]) (fun _ => rfl) (fun x => Bs W x.1 x.2) (fun n cs d hl hd => by
    match cs, hl with
    | [c], _ =>
      obtain ⟨l, hB⟩ := trod_bytes hd
      exact ⟨(c, l), rfl, hB⟩) hv h
  rw [flat_one] at h1
  exact ⟨s, h1, h2⟩
end
end Go.Proofs.Ytoinndlialimcaa
