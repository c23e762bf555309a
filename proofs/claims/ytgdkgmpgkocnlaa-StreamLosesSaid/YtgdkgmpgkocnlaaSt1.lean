/- rescriptlaw16.live holds. -/
import Derived.Test.YtgdkgmpgkocnlaaStC
import Derived.Test.YtgdkgmpgkocnlaaStG
namespace Go.Proofs.Ytgdkgmpgkocnlaa
open Go Go.RowKit Go.Shelf

theorem l16_do : doM [128] [⟨1, 0, 0, 7, []⟩] = [0] := by decide +kernel
theorem l16_cut : cutM [2, 1] [1, 2, 3, 4, 5] = [[1, 2], [3], [4, 5]] := by decide +kernel
theorem l16_frames : framesM [(1, [])] = (fput (1, []), 0, 0) := by rw [framesM_ok (by simp)]; simp [fjoin]
theorem l16_swap : swapM [(1, []), (2, [])] [1, 0, 3] = [(2, []), (1, []), (2, [])] := by decide +kernel
set_option maxRecDepth 100000 in
set_option maxHeartbeats 4000000 in
theorem live16_any (w : World) : Calls Try.prog 4 #[] w fun e w' => e = .returned (.bool true) ∧ Grew w w' := by
  go_enter Try.func4, Try.ntmps4
  go_wp2_with fail
  refine (sdo_any [(⟨1, 0, 0, 7, []⟩, .slice none 0 0)] [128] _ _ _ ((bs_lit w [128] #[.int .u8 128] 1 rfl rfl (by omega)).grew (grew_alloc _ _)) ⟨Sl.lit2 w _ 32 #[.int .i64 1, .int .i64 0, .int .i64 0, .int .i64 7, .slice none 0 0] 1 5 rfl (by omega), fun x hx => by rw [List.mem_singleton.1 hx]; exact ⟨Sl.nil _ 1, by unfold Ed.ok; simp⟩⟩ (by decide)).mono ?_
  rintro e w1 ⟨v1, rfl, o1, g1⟩
  have G1 := (grew22s w _ _).trans g1
  simp only [List.map_cons, List.map_nil] at o1
  rw [l16_do] at o1
  obtain ⟨a1, c1, rfl⟩ := bs_len (Sl.of_own o1)
  have O1 := Lib.hid (Sl.of_own o1)
  clear o1 g1
  go_wp2_with fail
  refine (scut_any [1, 2, 3, 4, 5] [2, 1] _ _ _ ((bs_lit w1 [1, 2, 3, 4, 5] #[.int .u8 1, .int .u8 2, .int .u8 3, .int .u8 4, .int .u8 5] 5 rfl rfl (by omega)).grew (grew_alloc _ _)) (Sl.lit2 w1 _ 3 #[.int .i64 2, .int .i64 1] 2 1 rfl (by omega)) (by decide) (by decide)).mono ?_
  rintro e w2 ⟨v2, rfl, ⟨ps, p1, p2, p3⟩, g2⟩
  rw [l16_cut] at p3
  obtain ⟨x0, x1, x2, rfl⟩ : ∃ x0 x1 x2, ps = [(x0, [1, 2]), (x1, [3]), (x2, [4, 5])] := by
    match ps, p3 with
    | [(x0, _), (x1, _), (x2, _)], h => simp at h; obtain ⟨rfl, rfl, rfl⟩ := h; exact ⟨x0, x1, x2, rfl⟩
  obtain ⟨ya, yc, hy⟩ := bs_len (p2 (x0, [1, 2]) (by simp))
  obtain ⟨za, zc, hz⟩ := bs_len (p2 (x2, [4, 5]) (by simp))
  simp only at hy hz
  subst hy hz
  have G2 := (G1.trans (grew22s w1 _ _)).trans g2
  obtain ⟨pa, pc, rfl, -, -, -, p4⟩ := (Sl.of_own p1).open
  obtain ⟨pb, po, rfl, p5⟩ := p4 (by simp)
  have q0 := p5 0 _ rfl
  have q2 := p5 2 _ rfl
  have O2 := Lib.hid (O1.out.grew ((grew22s w1 _ _).trans g2))
  clear p1 p2 p3 p4 p5 G1 g2 O1
  go_wp2_with fail
  refine (sframes_any [((1, []), .slice none 0 0)] _ _ ⟨Sl.lit w2 29 (0, 0) #[.int .u8 1, .slice none 0 0] 1 2 rfl (by unfold maxLen; omega), fun x hx => by rw [List.mem_singleton.1 hx]; exact Sl.nil _ 1⟩ (by decide)).mono ?_
  simp only [List.map_cons, List.map_nil, l16_frames]
  rintro e w3 ⟨v3, rfl, o3, g3⟩
  obtain ⟨a3, c3, rfl⟩ := bs_len (Sl.of_own o3)
  have hl3 : (fput (1, [])).length = 9 := by rw [fput_length]; rfl
  rw [hl3]
  have gA := (grew_alloc w2 (.cells #[.int .u8 1, .slice none 0 0] 29)).trans g3
  obtain ⟨w4, hw4⟩ : ∃ w4, w4 = w3.alloc (.cells #[.int .i64 0, .int .i64 0] 44) := ⟨_, rfl⟩
  have gB : Grew w3 w4 := by rw [hw4]; exact grew_alloc _ _
  have kF : Blk w4 w3.heap.size 44 #[.int .i64 0, .int .i64 0] := by rw [hw4]; exact Blk.new _ _ _
  go_upto_region 4 with (fail)
  rw [← hw4]
  clear hw4 o3
  have G4 := (G2.trans gA).trans gB
  go_wp2_with fail
  have hfs : FsR (w4.alloc (.cells #[.int .u8 1, .slice none 0 0, .int .u8 2, .slice none 0 0] 29)) (.slice (some ⟨w4.heap.size, 0, none⟩) 2 2) [((1, []), .slice none 0 0), ((2, []), .slice none 0 0)] :=
    ⟨Sl.lit w4 29 (0, 0) #[.int .u8 1, .slice none 0 0, .int .u8 2, .slice none 0 0] 2 2 rfl (by unfold maxLen; omega), fun x hx => by
      simp only [List.mem_cons, List.not_mem_nil, or_false] at hx
      rcases hx with rfl | rfl <;> exact Sl.nil _ 1⟩
  refine (sswap_any [((1, []), .slice none 0 0), ((2, []), .slice none 0 0)] [1, 0, 3] _ _ _ (hfs.grew (grew_alloc _ _)) (Sl.lit2 w4 _ 3 #[.int .i64 1, .int .i64 0, .int .i64 3] 3 1 rfl (by omega)) (by decide) (by decide) (by decide) (by decide)).mono ?_
  rintro e w5 ⟨v5, rfl, ⟨B, b1, b2⟩, g5⟩
  simp only [List.map_cons, List.map_nil, l16_swap] at b2
  obtain ⟨y0, y1, y2, rfl⟩ : ∃ y0 y1 y2, B = [((2, []), y0), ((1, []), y1), ((2, []), y2)] := by
    match B, b2 with
    | [(_, y0), (_, y1), (_, y2)], h => simp at h; obtain ⟨rfl, rfl, rfl⟩ := h; exact ⟨y0, y1, y2, rfl⟩
  obtain ⟨oa, on, oc, rfl, en5, -, -⟩ := b1.fsr.open
  have en5 : on = 3 := en5
  subst en5
  obtain ⟨ob, oo, rfl, hcl⟩ := b1.fsr.cells (by simp)
  have r0 : w5.cell? ⟨ob, oo, none⟩ = some (.int .u8 2) := (hcl 0 (by simp)).1
  have r2 : w5.cell? ⟨ob, oo + 4, none⟩ = some (.int .u8 2) := (hcl 2 (by simp)).1
  have gC := (grew22s w4 (.cells #[.int .u8 1, .slice none 0 0, .int .u8 2, .slice none 0 0] 29) (.cells #[.int .i64 1, .int .i64 0, .int .i64 3] 3)).trans g5
  have G5 := G4.trans gC
  have kF5 := kF.grew gC
  have s0 : w5.cell? ⟨pb, po, none⟩ = some (.slice ya 2 yc) := (below_ext ((gA.trans gB).trans gC)) _ _ q0
  have s2 : w5.cell? ⟨pb, po + 2, none⟩ = some (.slice za 2 zc) := (below_ext ((gA.trans gB).trans gC)) _ _ q2
  have O5 := Lib.hid (O2.out.grew ((gA.trans gB).trans gC))
  clear hcl b1 b2 kF g5 g3 q0 q2 hfs O2
  go_wp2_with fail
  refine (same_any [0] [0] _ _ _ (O5.out.grew (grew_alloc _ _)) (bs_lit w5 [0] #[.int .u8 0] 1 rfl rfl (by omega))).mono ?_
  rintro e w6 ⟨rfl, d6⟩
  have gE := (grew_alloc w5 (.cells #[.int .u8 0] 5)).trans d6.grew
  have f0 : w6.cell? ⟨w3.heap.size, 0, none⟩ = some (.int .i64 0) := (kF5.grew gE).cell 0
  have f1 : w6.cell? ⟨w3.heap.size, 1, none⟩ = some (.int .i64 0) := (kF5.grew gE).cell 1
  have t0 := (below_ext gE) _ _ s0
  have t2 := (below_ext gE) _ _ s2
  have u0 := (below_ext gE) _ _ r0
  have u2 := (below_ext gE) _ _ r2
  have G6 := G5.trans gE
  rw [show (([0] : List UInt8) == [0]) = true from rfl]
  clear s0 s2 r0 r2 kF5 O5 d6
  go_wp2_with fail
  refine (scut_any [] [1] _ _ _ (Sl.nil _ 1) (Sl.lit w6 3 (0, 0) #[.int .i64 1] 1 1 rfl (by unfold maxLen; omega)) (by decide) (by decide)).mono ?_
  rintro e w7 ⟨v7, rfl, ⟨ps, p1, -, p3⟩, g7⟩
  obtain rfl : ps = [] := by simpa [cutM, cutF] using p3
  obtain ⟨a7, c7, rfl, -⟩ := (Sl.of_own p1).open
  have G7 := (G6.trans (grew_alloc _ _)).trans g7
  go_wp2
  go_ret
  exact ⟨rfl, G7⟩
end Go.Proofs.Ytgdkgmpgkocnlaa
