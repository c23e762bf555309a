/- rescriptlaw14.live: it holds. -/
import Derived.Test.YtoinndlialimcaaFrH
namespace Go.Proofs.Ytoinndlialimcaa
open Go Go.RowKit Go.Shelf

theorem FRs.shape {w : World} {v : Value} {fs : List Fnd} (h : FRs w v fs) : ∃ a n c, v = .slice a n c ∧ n = fs.length ∧ n ≤ c ∧ c ≤ 9223372036854775807 := by
  obtain ⟨ps, rfl, h1, _⟩ := h
  obtain ⟨a, c, e, h2, h3, -, -⟩ := h1.open
  unfold maxLen at h3
  exact ⟨a, _, c, e, by simp, h2, by omega⟩
theorem FOs.shape {w : World} {base : Nat} {v : Value} {fs : List Fnd} (h : FOs w base v fs) : ∃ a n c, v = .slice a n c ∧ n = fs.length ∧ n ≤ c ∧ c ≤ 9223372036854775807 := h.frs.shape
/-- the cells of element j -/
theorem FRs.cells {w : World} {a : Option Addr} {n c : Nat} {fs : List Fnd} (h : FRs w (.slice a n c) fs) : 0 < fs.length → ∃ b off, a = some ⟨b, off, none⟩ ∧ ∀ j (hj : j < fs.length), w.cell? ⟨b, off + j * 3, none⟩ = some (.int .i64 (fs[j].1 : Nat)) ∧ w.cell? ⟨b, off + j * 3 + 1, none⟩ = some (.int .u8 (fs[j].2.1.toNat : Int)) ∧ ∃ u, w.cell? ⟨b, off + j * 3 + 2, none⟩ = some u ∧ Bs w u fs[j].2.2 := by
  obtain ⟨ps, rfl, h1⟩ := h
  intro hl
  rw [List.length_map] at hl
  obtain ⟨a', c', e, _, _, _, h4⟩ := h1.1.open
  cases e
  obtain ⟨b, o, rfl, _⟩ := h4 (by omega)
  refine ⟨b, o, rfl, fun j hj => ?_⟩
  rw [List.length_map] at hj
  obtain ⟨g0, g1, g2, g3⟩ := fr_cells h1 j hj
  simp only [List.getElem_map]
  exact ⟨g0, g1, _, g2, g3⟩
theorem OwnI.shape {w : World} {base : Nat} {v : Value} {l : List Nat} (h : OwnI w base v l) : ∃ a n c, v = .slice a n c ∧ n = l.length := by
  obtain ⟨a, c, e, _⟩ := (Sl.of_own h).open; exact ⟨a, _, c, e, rfl⟩

theorem OwnI.open {w : World} {base : Nat} {v : Value} {l : List Nat} (h : OwnI w base v l) : ∃ a n c, v = .slice a n c ∧ n = l.length ∧ n ≤ c ∧ c ≤ 9223372036854775807 ∧ (0 < n → ∃ b off, a = some ⟨b, off, none⟩ ∧ ∀ j (hj : j < l.length), w.cell? ⟨b, off + j, none⟩ = some (.int .i64 (l[j] : Nat))) := by
  obtain ⟨a, c, e, h1, h2, _, h4⟩ := (Sl.of_own h).open
  unfold maxLen at h2
  refine ⟨a, _, c, e, rfl, h1, by omega, fun hn => ?_⟩
  obtain ⟨b, o, ea, hc⟩ := h4 (by omega)
  exact ⟨b, o, ea, fun j hj => hc j _ (iv_get l j hj)⟩

def lvB : List UInt8 := [0, 197] ++ fput (7, [1])
theorem lvB_walk : walkL false lvB 0 = ([(2, (7, [1]))], 2, 12) := by decide +kernel
theorem lvB_len : lvB.length = 12 := by decide +kernel
theorem lvB_whole : wholeN lvB 12 = [2] := by decide +kernel
theorem lv_none : walkL false [197, 154, 1] 0 = ([], 0, 0) := by decide +kernel
theorem lv_end : walkL true [197, 154] 0 = ([], 2, 2) := by decide +kernel
theorem lv_c1 : ferr [197] = 4 := by decide +kernel
theorem lv_c0 : ferr [0] = 3 := by decide +kernel
theorem add1 (w : World) (o : Obj) : (w.alloc o).heap.size = w.heap.size + 1 := World.size_alloc _ _

end Go.Proofs.Ytoinndlialimcaa
