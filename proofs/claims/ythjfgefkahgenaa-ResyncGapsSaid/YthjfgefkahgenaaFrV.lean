/- rescriptlaw14.live: it holds. -/
import Derived.Test.YthjfgefkahgenaaFrH
namespace Go.Proofs.Ythjfgefkahgenaa
open Go Go.RowKit Go.Shelf

theorem FRs.shape {w : World} {v : Value} {fs : List Fnd} (h : FRs w v fs) : ∃ a n c, v = .slice a n c ∧ n = fs.length ∧ n ≤ c ∧ c ≤ 9223372036854775807 := by
  obtain ⟨ps, rfl, h1, _⟩ := h
  obtain ⟨a, c, e, h2, h3, -, -⟩ := h1.open
  unfold maxLen at h3
  exact ⟨a, _, c, e, by simp, h2, by omega⟩
theorem FOs.shape {w : World} {base : Nat} {v : Value} {fs : List Fnd} (h : FOs w base v fs) : ∃ a n c, v = .slice a n c ∧ n = fs.length ∧ n ≤ c ∧ c ≤ 9223372036854775807 := h.frs.shape
/-- the cells of element j -/
theorem FRs.cells {w : World} {a : Option Addr} {n c : Nat} {fs : List Fnd} (h : FRs w (.slice a n c) fs) : 0 < fs.length → ∃ b off, a = some ⟨b, off, none⟩ ∧ ∀ j (hj : j < fs.length), w.cell? ⟨b, off + j * 3, none⟩ = some (.int .i64 (fs[j].1 : Nat)) ∧ w.cell? ⟨b, off + j * 3 + 1, none⟩ = some (.int .u8 (fs[j].2.1.toNat : Int)) ∧ ∃ u, w.cell? ⟨b, off + j * 3 + 2, none⟩ = some u ∧ Bs w u fs[j].2.2 := by
  obtain ⟨ps, rfl, h1⟩ := h
  intro hl
  rw [List.length_map] at hl
  obtain ⟨a', c', e, _, _, _, h4⟩ := h1.1.open
  cases e
  obtain ⟨b, o, rfl, _⟩ := h4 (by omega)
  refine ⟨b, o, rfl, fun j hj => ?_⟩
  rw [List.length_map] at hj
  obtain ⟨g0, g1, g2, g3⟩ := fr_cells h1 j hj
  simp only [List.getElem_map]
  exact ⟨g0, g1, _, g2, g3⟩
theorem OwnI.shape {w : World} {base : Nat} {v : Value} {l : List Nat} (h : OwnI w base v l) : ∃ a n c, v = .slice a n c ∧ n = l.length := by
  obtain ⟨a, c, e, _⟩ := (Sl.of_own h).open; exact ⟨a, _, c, e, rfl⟩

theorem OwnI.open {w : World} {base : Nat} {v : Value} {l : List Nat} (h : OwnI w base v l) : ∃ a n c, v = .slice a n c ∧ n = l.length ∧ n ≤ c ∧ c ≤ 9223372036854775807 ∧ (0 < n → ∃ b off, a = some ⟨b, off, none⟩ ∧ ∀ j (hj : j < l.length), w.cell? ⟨b, off + j, none⟩ = some (.int .i64 (l[j] : Nat))) := by
  obtain ⟨a, c, e, h1, h2, _, h4⟩ := (Sl.of_own h).open
  unfold maxLen at h2
  refine ⟨a, _, c, e, rfl, h1, by omega, fun hn => ?_⟩
  obtain ⟨b, o, ea, hc⟩ := h4 (by omega)
  exact ⟨b, o, ea, fun j hj => hc j _ (iv_get l j hj)⟩

def lvB : List UInt8 := [0, 197] ++ fput (7, [1])
theorem lvB_walk : walkL false lvB 0 = ([(2, (7, [1]))], 2, 12) := by decide +kernel
theorem lvB_len : lvB.length = 12 := by decide +kernel
theorem lvB_whole : wholeN lvB 12 = [2] := by decide +kernel
theorem lv_none : walkL false [197, 154, 1] 0 = ([], 0, 0) := by decide +kernel
theorem lv_end : walkL true [197, 154] 0 = ([], 2, 2) := by decide +kernel
theorem lv_c1 : ferr [197] = 4 := by decide +kernel
theorem lv_c0 : ferr [0] = 3 := by decide +kernel
theorem add1 (w : World) (o : Obj) : (w.alloc o).heap.size = w.heap.size + 1 := World.size_alloc _ _

set_option maxRecDepth 100000 in
set_option maxHeartbeats 4000000 in
theorem live14_any (w : World) : Calls Try.prog 10 #[] w fun e w' => e = .returned (.bool true) ∧ Grew w w' := by
  go_enter Try.func10, Try.ntmps10
  go_wp2_with fail
  have p1 : Bs ((w.alloc (.cells #[.int .u8 0, .int .u8 197] 5)).alloc (.cells #[.int .u8 1] 5)) (.slice (some ⟨w.heap.size + 1, 0, none⟩) 1 1) [1] := by
    have := bs_lit (w.alloc (.cells #[.int .u8 0, .int .u8 197] 5)) [1] #[.int .u8 1] 1 rfl rfl (by omega)
    rw [add1] at this; exact this
  have p0 : Bs ((w.alloc (.cells #[.int .u8 0, .int .u8 197] 5)).alloc (.cells #[.int .u8 1] 5)) (.slice (some ⟨w.heap.size, 0, none⟩) 2 2) [0, 197] :=
    (bs_lit w [0, 197] #[.int .u8 0, .int .u8 197] 2 rfl rfl (by omega)).grew (grew_alloc _ _)
  have g0 : Grew w ((w.alloc (.cells #[.int .u8 0, .int .u8 197] 5)).alloc (.cells #[.int .u8 1] 5)) := (grew_alloc _ _).trans (grew_alloc _ _)
  refine (r13put_any (7, [1]) _ _ p1 (by decide)).mono ?_
  rintro e w1 ⟨v1, rfl, h1, g1⟩
  have q0 := p0.grew g1
  have q1 := Sl.of_own h1
  have G1 := g0.trans g1
  obtain ⟨a1, n1, c1, rfl, hn1⟩ := bs_shape q1
  clear p0 p1 h1
  go_wp2_with fail
  refine (join_any [0, 197] (fput (7, [1])) _ _ _ q0 q1 (by decide +kernel)).mono ?_
  rw [show [0, 197] ++ fput (7, [1]) = lvB from rfl]
  rintro e w2 ⟨v2, rfl, h2, g2⟩
  have G2 := G1.trans g2
  have b2 := Sl.of_own h2
  obtain ⟨a2, c2, rfl⟩ := bs_len b2
  have hB : Bs w2 (.slice a2 12 c2) lvB := by rw [← lvB_len]; exact b2
  rw [lvB_len]
  have HB := Lib.hid hB
  clear q0 q1 h2 b2 hB hn1
  go_wp2_with fail
  have k3 := all_any lvB _ _ HB.out (by rw [lvB_len]; omega)
  rw [lvB_walk] at k3
  refine k3.mono ?_
  rintro e w3 ⟨v3, rfl, h3, g3⟩
  have G3 := G2.trans g3
  obtain ⟨a3, n3, c3, rfl, rfl, -, -⟩ := h3.shape
  have r3 := h3.frs
  clear h3 k3
  go_wp2_with fail
  have p4 := bs_lit w3 [197, 154, 1] #[.int .u8 197, .int .u8 154, .int .u8 1] 3 rfl rfl (by omega)
  have g4 := grew_alloc w3 (.cells #[.int .u8 197, .int .u8 154, .int .u8 1] 5)
  have k4 := all_any _ _ _ p4 (by decide)
  rw [lv_none] at k4
  refine k4.mono ?_
  rintro e w5 ⟨v5, rfl, h5, g5⟩
  obtain ⟨a5, n5, c5, rfl, rfl, -, -⟩ := h5.shape
  have G35 := g4.trans g5
  have G5 := G3.trans G35
  have r5 := r3.grew G35
  obtain ⟨b, o, rfl, hcl⟩ := r5.cells (by decide)
  obtain ⟨x0, x1, -⟩ := hcl 0 (by decide)
  simp only [Nat.zero_mul, Nat.add_zero, List.getElem_cons_zero] at x0 x1
  replace x0 : w5.cell? ⟨b, o, none⟩ = some (.int .i64 2) := x0
  replace x1 : w5.cell? ⟨b, o + 1, none⟩ = some (.int .u8 7) := x1
  have B5 := Lib.hid ((HB.out.grew g3).grew G35)
  clear k4 h5 p4 hcl r3 r5
  go_wp2_with fail
  have k6 := passed_any lvB _ _ B5.out (by rw [lvB_len]; omega)
  rw [lvB_walk] at k6
  refine k6.mono ?_
  rintro e w6 ⟨rfl, g6⟩
  have G6 := G5.trans g6
  have B6 := Lib.hid (B5.out.grew g6)
  clear k6 x0 x1
  go_wp2_with fail
  have k7 := could_any _ _ _ (bs_lit w6 [197] #[.int .u8 197] 1 rfl rfl (by omega)) (by decide)
  rw [lv_c1] at k7
  refine k7.mono ?_
  rintro e w7 ⟨rfl, g7⟩
  have g67 := (grew_alloc w6 (.cells #[.int .u8 197] 5)).trans g7
  have G7 := G6.trans g67
  have B7 := Lib.hid (B6.out.grew g67)
  clear k7
  go_wp2_with fail
  have k8 := could_any _ _ _ (bs_lit w7 [0] #[.int .u8 0] 1 rfl rfl (by omega)) (by decide)
  rw [lv_c0] at k8
  refine k8.mono ?_
  rintro e w8 ⟨rfl, g8⟩
  have g78 := (grew_alloc w7 (.cells #[.int .u8 0] 5)).trans g8
  have G8 := G7.trans g78
  have B8 := Lib.hid (B7.out.grew g78)
  clear k8
  go_wp2_with fail
  have k9 := ended_any _ _ _ (bs_lit w8 [197, 154] #[.int .u8 197, .int .u8 154] 2 rfl rfl (by omega)) (by decide)
  rw [lv_end] at k9
  refine k9.mono ?_
  rintro e w9 ⟨v9, rfl, h9, g9⟩
  obtain ⟨a9, n9, c9, rfl, rfl, -, -⟩ := h9.shape
  have g89 := (grew_alloc w8 (.cells #[.int .u8 197, .int .u8 154] 5)).trans g9
  have G9 := G8.trans g89
  have B9 := Lib.hid (B8.out.grew g89)
  clear k9 h9
  go_wp2_with fail
  have k10 := whole_any lvB _ _ B9.out (by rw [lvB_len]; omega)
  rw [lvB_len, lvB_whole] at k10
  refine k10.mono ?_
  rintro e w10 ⟨v10, rfl, h10, g10⟩
  obtain ⟨a10, n10, c10, rfl, rfl⟩ := h10.shape
  have G10 := G9.trans g10
  clear k10 h10
  go_wp2
  go_ret
  exact ⟨rfl, G10⟩
end Go.Proofs.Ythjfgefkahgenaa
