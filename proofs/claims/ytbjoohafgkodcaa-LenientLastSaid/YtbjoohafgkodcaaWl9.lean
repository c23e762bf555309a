/- rescriptlaw11.live: contract. -/
import Derived.Test.YtbjoohafgkodcaaWl5
namespace Go.Proofs.Ytbjoohafgkodcaa
open Go Go.RowKit Go.Shelf
attribute [local go_sem] Oper.semAt_some

def lB1 : List UInt8 := [8, 1, 8, 2, 120, 5]
def lB2 : List UInt8 := [8, 1, 26, 1, 255]
theorem l11_d1 : (decM 1 1 lB1).2 = (0, 0) := by decide +kernel
theorem l11_d2 : (decM 1 1 lB1).1.k = 1 := by decide +kernel
theorem l11_d3 : (decM 1 1 lB1).1.n 0 = 2 := by decide +kernel
theorem l11_u1 : (unkM 1 1 lB1).1 = ([(15, 0, 5, [], 4)] : List Fld) := by decide +kernel
theorem l11_u2 : (unkM 1 1 lB1).2 = (0, 0) := by decide +kernel
theorem l11_u : unkM 1 1 lB1 = ([(15, 0, 5, [], 4)], 0, 0) := Prod.ext l11_u1 l11_u2
theorem l11_h : (decM 1 1 lB2).2 = (9, 2) := by decide +kernel
theorem l11_i : (decM 8 1 []).2 = (7, 0) := by decide +kernel
theorem l11_n : (setM mZ 3 5 (0, 0, 1, [], 0)).1.n 5 = 18446744073709551615 := by decide +kernel
theorem l11_e : (setM mZ 3 5 (0, 0, 1, [], 0)).2 = 0 := by decide +kernel
theorem lB1_bs (w : World) (b : Nat) (h : b = w.heap.size) : Bs (w.alloc (.cells #[.int .u8 8, .int .u8 1, .int .u8 8, .int .u8 2, .int .u8 120, .int .u8 5] 5)) (.slice (some ⟨b, 0, none⟩) 6 6) lB1 := by subst h; exact bs_lit w lB1 _ 6 rfl rfl (by omega)
theorem lB2_bs (w : World) (b : Nat) (h : b = w.heap.size) : Bs (w.alloc (.cells #[.int .u8 8, .int .u8 1, .int .u8 26, .int .u8 1, .int .u8 255] 5)) (.slice (some ⟨b, 0, none⟩) 5 5) lB2 := by subst h; exact bs_lit w lB2 _ 5 rfl rfl (by omega)
set_option maxRecDepth 100000 in
set_option maxHeartbeats 8000000 in
theorem live11_any (w : World) : Calls Try.prog 12 #[] w fun e w' => e = .returned (.bool true) ∧ Grew w w' := by
  have KD := Lib.hid (fun W v hb => ldecode_any 1 1 lB1 v W hb (by decide))
  have KU := Lib.hid (fun W v hb => lunknown_any 1 1 lB1 v W hb (by decide))
  have KH := Lib.hid (fun W v hb => ldecode_any 1 1 lB2 v W hb (by decide))
  have KI := Lib.hid (fun W => ldecode_any 8 1 [] _ W (Sl.nil W 1) (by decide))
  have KS := Lib.hid (fun W => lset_any mZ (.slice none 0 0) 1 3 5 (0, 0, 1, [], 0) (.slice none 0 0) W (Sl.nil W 1) (by decide) (Sl.nil W 1) (by decide) (by decide))
  have E1 := l11_d1
  have E2 := l11_d2
  have E3 := l11_d3
  have E4 := l11_u
  have E5 := l11_h
  have E6 := l11_i
  have E7 := l11_n
  have E8 := l11_e
  unfold DecP at KD KH KI
  unfold UnkP at KU
  unfold SetP at KS
  rw [E4] at KU
  generalize decM 1 1 lB1 = D1 at KD E1 E2 E3
  generalize decM 1 1 lB2 = D2 at KH E5
  generalize decM 8 1 [] = D3 at KI E6
  generalize setM mZ 3 5 (0, 0, 1, [], 0) = S1 at KS E7 E8
  obtain ⟨D1m, D1f⟩ := D1
  obtain ⟨D2m, D2f⟩ := D2
  obtain ⟨D3m, D3f⟩ := D3
  obtain ⟨S1m, S1f⟩ := S1
  simp only at E1 E2 E3 E5 E6 E7 E8
  subst E1 E5 E6 E8
  have HE2 := Lib.hid E2
  have HE3 := Lib.hid E3
  have HE7 := Lib.hid E7
  clear E2 E3 E4 E7
  simp only [fltI, msgA] at KD KU KH KI KS
  go_enter Try.func12, Try.ntmps12
  go_wp2_with fail
  refine (KD.out _ _ (lB1_bs w _ rfl)).mono ?_
  rintro e w1 ⟨lv1, rfl, ho1, g1⟩
  obtain ⟨a1, c1, rfl⟩ := tx_len (Sl.of_own ho1)
  obtain ⟨v1, hv1⟩ : ∃ V, V = (w1.alloc (.cells (msgA D1m (.slice a1 D1m.l.length c1)) 29)).alloc (.cells #[.int .i64 0, .int .i64 0] 32) := ⟨_, rfl⟩
  have gv1 : Grew w1 v1 := by rw [hv1]; exact grew22 _ _ _
  have KM1 := Lib.hid (show Blk v1 w1.heap.size 29 (msgA D1m (.slice a1 D1m.l.length c1)) by rw [hv1]; exact (Blk.new _ _ _).alloc _)
  have KF1 := Lib.hid (show Blk v1 (w1.heap.size + 1) 32 #[.int .i64 0, .int .i64 0] by rw [hv1]; exact Blk.at (by simp))
  have G1 := Lib.hid (((grew_alloc w _).trans g1).trans gv1)
  simp only [msgA] at hv1
  clear gv1 ho1 g1
  go_upto_region 2 with (fail)
  rw [← hv1]
  clear hv1
  go_wp2_with fail
  refine (KU.out _ _ (lB1_bs v1 _ rfl)).mono ?_
  rintro e w2 ⟨rv2, rfl, ⟨ps, hps, hfv⟩, g2⟩
  obtain ⟨y2, rfl⟩ : ∃ y, ps = [((15, 0, 5, [], 4), y)] := by
    match ps, hps with
    | [(x, y)], h => simp at h; exact ⟨y, by rw [h]⟩
  have HF2 := Lib.hid hfv.flr
  obtain ⟨ra, rc, rfl, -, -, -, r4⟩ := hfv.flr.1.open
  obtain ⟨rb, ro, rfl, -⟩ := r4 (by simp)
  obtain ⟨v2, hv2⟩ : ∃ V, V = w2.alloc (.cells #[.int .i64 0, .int .i64 0] 32) := ⟨_, rfl⟩
  have gv2 : Grew w2 v2 := by rw [hv2]; exact grew_alloc _ _
  have KF2 := Lib.hid (show Blk v2 w2.heap.size 32 #[.int .i64 0, .int .i64 0] by rw [hv2]; exact Blk.new _ _ _)
  have D2 := Lib.hid (((grew_alloc v1 _).trans g2).trans gv2)
  have DF2 := Lib.hid gv2
  clear gv2 hfv g2 r4 hps
  go_upto_region 3 with (fail)
  rw [← hv2]
  clear hv2
  go_wp2_with fail
  refine (KH.out _ _ (lB2_bs v2 _ rfl)).mono ?_
  rintro e w3 ⟨lv3, rfl, ho3, g3⟩
  obtain ⟨a3, c3, rfl⟩ := tx_len (Sl.of_own ho3)
  obtain ⟨v3, hv3⟩ : ∃ V, V = (w3.alloc (.cells (msgA D2m (.slice a3 D2m.l.length c3)) 29)).alloc (.cells #[.int .i64 9, .int .i64 2] 32) := ⟨_, rfl⟩
  have gv3 : Grew w3 v3 := by rw [hv3]; exact grew22 _ _ _
  have KM3 := Lib.hid (show Blk v3 w3.heap.size 29 (msgA D2m (.slice a3 D2m.l.length c3)) by rw [hv3]; exact (Blk.new _ _ _).alloc _)
  have KF3 := Lib.hid (show Blk v3 (w3.heap.size + 1) 32 #[.int .i64 9, .int .i64 2] by rw [hv3]; exact Blk.at (by simp))
  have G3 := Lib.hid (((grew_alloc v2 _).trans g3).trans gv3)
  simp only [msgA] at hv3
  clear gv3 ho3 g3
  go_upto_region 4 with (fail)
  rw [← hv3]
  clear hv3
  go_wp2_with fail
  refine (KI.out _).mono ?_
  rintro e w4 ⟨lv4, rfl, ho4, g4⟩
  obtain ⟨a4, c4, rfl⟩ := tx_len (Sl.of_own ho4)
  obtain ⟨v4, hv4⟩ : ∃ V, V = (w4.alloc (.cells (msgA D3m (.slice a4 D3m.l.length c4)) 29)).alloc (.cells #[.int .i64 7, .int .i64 0] 32) := ⟨_, rfl⟩
  have gv4 : Grew w4 v4 := by rw [hv4]; exact grew22 _ _ _
  have KM4 := Lib.hid (show Blk v4 w4.heap.size 29 (msgA D3m (.slice a4 D3m.l.length c4)) by rw [hv4]; exact (Blk.new _ _ _).alloc _)
  have KF4 := Lib.hid (show Blk v4 (w4.heap.size + 1) 32 #[.int .i64 7, .int .i64 0] by rw [hv4]; exact Blk.at (by simp))
  have G4 := Lib.hid (g4.trans gv4)
  simp only [msgA] at hv4
  clear gv4 ho4 g4
  go_upto_region 5 with (fail)
  rw [← hv4]
  clear hv4
  go_wp2_with fail
  refine (KS.out _).mono ?_
  rintro e w5 ⟨lv5, rfl, ho5, g5⟩
  obtain ⟨a5, c5, rfl⟩ := tx_len (Sl.of_own ho5)
  obtain ⟨v5, hv5⟩ : ∃ V, V = w5.alloc (.cells (msgA S1m (.slice a5 S1m.l.length c5)) 29) := ⟨_, rfl⟩
  have gv5 : Grew w5 v5 := by rw [hv5]; exact grew_alloc _ _
  have KM5 := Lib.hid (show Blk v5 w5.heap.size 29 (msgA S1m (.slice a5 S1m.l.length c5)) by rw [hv5]; exact Blk.new _ _ _)
  have G5 := Lib.hid (g5.trans gv5)
  simp only [msgA] at hv5
  clear gv5 ho5 g5
  go_upto_region 6 with (fail)
  rw [← hv5]
  clear hv5 KD KU KH KI KS
  have t4 := G5.out
  have t3 := G4.out.trans t4
  have t2 := G3.out.trans t3
  have t1 := D2.out.trans t2
  obtain ⟨m0, m1, -, -, -, -, -, -, -, -⟩ := mcells (KM1.out.grew t1)
  obtain ⟨-, -, -, -, -, -, n6, -, -, -⟩ := mcells KM5.out
  rw [HE2.out] at m0
  rw [HE3.out] at m1
  rw [HE7.out] at n6
  obtain ⟨x0, x1, -, -⟩ := cells_of (KF1.out.grew t1)
  obtain ⟨y0, y1, -, -⟩ := cells_of (KF2.out.grew t2)
  obtain ⟨z0, z1, -, -⟩ := cells_of (KF3.out.grew t3)
  obtain ⟨i0, i1, -, -⟩ := cells_of (KF4.out.grew t4)
  obtain ⟨l0, -, -, -, -, -⟩ := fl_cells (HF2.out.grew (DF2.out.trans t2)) 0 (by simp)
  simp only [List.getElem_cons_zero, Nat.zero_mul, Nat.add_zero] at l0
  replace m0 : v5.cell? ⟨w1.heap.size, 0, none⟩ = some (.int .u8 1) := m0
  replace m1 : v5.cell? ⟨w1.heap.size, 1, none⟩ = some (.int .u64 2) := m1
  replace n6 : v5.cell? ⟨w5.heap.size, 6, none⟩ = some (.int .u64 18446744073709551615) := n6
  have HG := Lib.hid (G1.out.trans t1)
  clear t1 t2 t3 t4

  go_wp2
  go_ret
  exact ⟨rfl, HG.out⟩
end Go.Proofs.Ytbjoohafgkodcaa
