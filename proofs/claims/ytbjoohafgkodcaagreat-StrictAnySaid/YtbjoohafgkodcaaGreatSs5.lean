/- rescriptlaw12.live: contract. -/
import Derived.Test.YtbjoohafgkodcaaGreatSs4
namespace Go.Proofs.YtbjoohafgkodcaaGreat
open Go Go.RowKit Go.Shelf
attribute [local go_sem] Oper.semAt_some

def lS1 : List UInt8 := [16, 3, 8, 1]
def lS2 : List UInt8 := [8, 0]
def lS3 : List UInt8 := [8, 1, 16, 3]
theorem l12_f : (strM 1 1 lS1).2 = (3, 0) := by decide +kernel
theorem l12_g : (strM 1 1 lS2).2 = (3, 0) := by decide +kernel
theorem l12_h : (strM 1 1 lS3).2 = (0, 0) := by decide +kernel
theorem l12_m : (strM 1 1 lS3).1.n 1 = 3 := by decide +kernel
theorem l12_b : (bothM 1 1 lS1).2.1 = lS3 := by decide +kernel
theorem l12_i : (bothM 1 1 lS1).2.2 = (0, 0) := by decide +kernel
theorem l12_x : (anyM []).1.k = 1 := by decide +kernel
theorem l12_v : (anyM []).2 = (1, true) := by decide +kernel
theorem lS1_bs (w : World) (b : Nat) (h : b = w.heap.size) : Bs (w.alloc (.cells #[.int .u8 16, .int .u8 3, .int .u8 8, .int .u8 1] 5)) (.slice (some ⟨b, 0, none⟩) 4 4) lS1 := by subst h; exact bs_lit w lS1 _ 4 rfl rfl (by omega)
theorem lS2_bs (w : World) (b : Nat) (h : b = w.heap.size) : Bs (w.alloc (.cells #[.int .u8 8, .int .u8 0] 5)) (.slice (some ⟨b, 0, none⟩) 2 2) lS2 := by subst h; exact bs_lit w lS2 _ 2 rfl rfl (by omega)
theorem lS3_bs (w : World) (b : Nat) (h : b = w.heap.size) : Bs (w.alloc (.cells #[.int .u8 8, .int .u8 1, .int .u8 16, .int .u8 3] 5)) (.slice (some ⟨b, 0, none⟩) 4 4) lS3 := by subst h; exact bs_lit w lS3 _ 4 rfl rfl (by omega)
set_option maxRecDepth 100000 in
set_option maxHeartbeats 8000000 in
theorem live12_any (w : World) : Calls Tryz.prog 7 #[] w fun e w' => e = .returned (.bool true) ∧ Grew w w' := by
  have K1 := Lib.hid (fun W v hb => sdecode_any 1 1 lS1 v W hb (by decide))
  have K2 := Lib.hid (fun W v hb => sdecode_any 1 1 lS2 v W hb (by decide))
  have K3 := Lib.hid (fun W v hb => sdecode_any 1 1 lS3 v W hb (by decide))
  have K4 := Lib.hid (fun W v hb => sfix_any 1 1 lS1 v W hb (by decide))
  have K5 := Lib.hid (fun W => sany_any [] (.slice none 0 0) W (Sl.nil W 1) (by decide))
  have E1 := l12_f
  have E2 := l12_g
  have E3 := l12_h
  have E4 := l12_m
  have E5 := l12_b
  have E6 := l12_i
  have E7 := l12_x
  have E8 := l12_v
  unfold StrP at K1 K2 K3
  unfold FixP at K4
  unfold AnyP at K5
  generalize strM 1 1 lS1 = D1 at K1 E1
  generalize strM 1 1 lS2 = D2 at K2 E2
  generalize strM 1 1 lS3 = D3 at K3 E3 E4
  generalize bothM 1 1 lS1 = D4 at K4 E5 E6
  generalize anyM [] = D5 at K5 E7 E8
  obtain ⟨D1m, D1f⟩ := D1
  obtain ⟨D2m, D2f⟩ := D2
  obtain ⟨D3m, D3f⟩ := D3
  obtain ⟨D4m, D4b, D4f⟩ := D4
  obtain ⟨D5m, D5v⟩ := D5
  simp only at E1 E2 E3 E4 E5 E6 E7 E8
  subst E1 E2 E3 E5 E6 E8
  have HE4 := Lib.hid E4
  have HE7 := Lib.hid E7
  clear E4 E7
  simp only [fltI, msgA] at K1 K2 K3 K4 K5
  go_enter Tryz.func7, Tryz.ntmps7
  go_wp2_with fail
  refine (K1.out _ _ (lS1_bs w _ rfl)).mono ?_
  rintro e w1 ⟨lv1, rfl, ho1, g1⟩
  obtain ⟨a1, c1, rfl⟩ := tx_len (Sl.of_own ho1)
  obtain ⟨v1, hv1⟩ : ∃ V, V = (w1.alloc (.cells (msgA D1m (.slice a1 D1m.l.length c1)) 29)).alloc (.cells #[.int .i64 3, .int .i64 0] 32) := ⟨_, rfl⟩
  have gv1 : Grew w1 v1 := by rw [hv1]; exact grew22 _ _ _
  have KM1 := Lib.hid (show Blk v1 w1.heap.size 29 (msgA D1m (.slice a1 D1m.l.length c1)) by rw [hv1]; exact (Blk.new _ _ _).alloc _)
  have KF1 := Lib.hid (show Blk v1 (w1.heap.size + 1) 32 #[.int .i64 3, .int .i64 0] by rw [hv1]; exact Blk.at (by simp))
  have G1 := Lib.hid (((grew_alloc w _).trans g1).trans gv1)
  simp only [msgA] at hv1
  clear gv1 ho1 g1
  go_upto_region 2 with (fail)
  rw [← hv1]
  clear hv1
  go_wp2_with fail
  refine (K2.out _ _ (lS2_bs v1 _ rfl)).mono ?_
  rintro e w2 ⟨lv2, rfl, ho2, g2⟩
  obtain ⟨a2, c2, rfl⟩ := tx_len (Sl.of_own ho2)
  obtain ⟨v2, hv2⟩ : ∃ V, V = (w2.alloc (.cells (msgA D2m (.slice a2 D2m.l.length c2)) 29)).alloc (.cells #[.int .i64 3, .int .i64 0] 32) := ⟨_, rfl⟩
  have gv2 : Grew w2 v2 := by rw [hv2]; exact grew22 _ _ _
  have KM2 := Lib.hid (show Blk v2 w2.heap.size 29 (msgA D2m (.slice a2 D2m.l.length c2)) by rw [hv2]; exact (Blk.new _ _ _).alloc _)
  have KF2 := Lib.hid (show Blk v2 (w2.heap.size + 1) 32 #[.int .i64 3, .int .i64 0] by rw [hv2]; exact Blk.at (by simp))
  have G2 := Lib.hid (((grew_alloc v1 _).trans g2).trans gv2)
  simp only [msgA] at hv2
  clear gv2 ho2 g2
  go_upto_region 3 with (fail)
  rw [← hv2]
  clear hv2
  go_wp2_with fail
  refine (K3.out _ _ (lS3_bs v2 _ rfl)).mono ?_
  rintro e w3 ⟨lv3, rfl, ho3, g3⟩
  obtain ⟨a3, c3, rfl⟩ := tx_len (Sl.of_own ho3)
  obtain ⟨v3, hv3⟩ : ∃ V, V = (w3.alloc (.cells (msgA D3m (.slice a3 D3m.l.length c3)) 29)).alloc (.cells #[.int .i64 0, .int .i64 0] 32) := ⟨_, rfl⟩
  have gv3 : Grew w3 v3 := by rw [hv3]; exact grew22 _ _ _
  have KM3 := Lib.hid (show Blk v3 w3.heap.size 29 (msgA D3m (.slice a3 D3m.l.length c3)) by rw [hv3]; exact (Blk.new _ _ _).alloc _)
  have KF3 := Lib.hid (show Blk v3 (w3.heap.size + 1) 32 #[.int .i64 0, .int .i64 0] by rw [hv3]; exact Blk.at (by simp))
  have G3 := Lib.hid (((grew_alloc v2 _).trans g3).trans gv3)
  simp only [msgA] at hv3
  clear gv3 ho3 g3
  go_upto_region 4 with (fail)
  rw [← hv3]
  clear hv3
  go_wp2_with fail
  refine (K4.out _ _ (lS1_bs v3 _ rfl)).mono ?_
  rintro e w4 ⟨ov, rfl, ho4, g4⟩
  obtain ⟨a4, c4, rfl⟩ := bs_len (Sl.of_own ho4)
  obtain ⟨v4, hv4⟩ : ∃ V, V = w4.alloc (.cells #[.int .i64 0, .int .i64 0] 32) := ⟨_, rfl⟩
  have gv4 : Grew w4 v4 := by rw [hv4]; exact grew_alloc _ _
  have KF4 := Lib.hid (show Blk v4 w4.heap.size 32 #[.int .i64 0, .int .i64 0] by rw [hv4]; exact Blk.new _ _ _)
  have HS4 := Lib.hid (Sl.of_own (own_grew ho4 gv4))
  have G4 := Lib.hid (((grew_alloc v3 _).trans g4).trans gv4)
  clear gv4 ho4 g4
  go_upto_region 5 with (fail)
  rw [← hv4]
  clear hv4
  go_wp2_with fail
  refine (K5.out _).mono ?_
  rintro e w5 ⟨lv5, rfl, ho5, g5⟩
  obtain ⟨a5, c5, rfl⟩ := tx_len (Sl.of_own ho5)
  obtain ⟨v5, hv5⟩ : ∃ V, V = w5.alloc (.cells (msgA D5m (.slice a5 D5m.l.length c5)) 29) := ⟨_, rfl⟩
  have gv5 : Grew w5 v5 := by rw [hv5]; exact grew_alloc _ _
  have KM5 := Lib.hid (show Blk v5 w5.heap.size 29 (msgA D5m (.slice a5 D5m.l.length c5)) by rw [hv5]; exact Blk.new _ _ _)
  have G5 := Lib.hid (g5.trans gv5)
  simp only [msgA] at hv5
  clear gv5 ho5 g5
  go_upto_region 6 with (fail)
  rw [← hv5]
  clear hv5 K1 K2 K3 K4 K5
  have t4 := G5.out
  have t3 := G4.out.trans t4
  have t2 := G3.out.trans t3
  have t1 := G2.out.trans t2
  obtain ⟨-, -, m1, -, -, -, -, -, -, -⟩ := mcells (KM3.out.grew t3)
  rw [HE4.out] at m1
  replace m1 : v5.cell? ⟨w3.heap.size, 2, none⟩ = some (.int .u64 3) := m1
  obtain ⟨x0, x1, -, -⟩ := cells_of (KF1.out.grew t1)
  obtain ⟨y0, y1, -, -⟩ := cells_of (KF2.out.grew t2)
  obtain ⟨z0, z1, -, -⟩ := cells_of (KF3.out.grew t3)
  have HG := Lib.hid (G1.out.trans t1)
  have HS5 := Lib.hid (HS4.out.grew t4)
  have HF5 := Lib.hid (KF4.out.grew t4)
  clear t1 t2 t3 t4
  go_wp2_with fail
  refine (same_any _ _ _ _ _ (HS5.out.grew (grew_alloc v5 _)) (lS3_bs v5 _ rfl)).mono ?_
  rintro e w6 ⟨rfl, hd⟩
  have g6 := (grew_alloc v5 _).trans hd.grew
  obtain ⟨i0, i1, -, -⟩ := cells_of (HF5.out.grew g6)
  obtain ⟨n0, -, -, -, -, -, -, -, -, -⟩ := mcells (KM5.out.grew g6)
  rw [HE7.out] at n0
  replace n0 : w6.cell? ⟨w5.heap.size, 0, none⟩ = some (.int .u8 1) := n0
  have HG6 := Lib.hid (HG.out.trans g6)
  have hs9 : (lS3 == lS3) = true := by simp
  clear g6 hd x0 x1 y0 y1 z0 z1 m1
  go_wp2
  go_ret
  exact ⟨rfl, HG6.out⟩
end Go.Proofs.YtbjoohafgkodcaaGreat
