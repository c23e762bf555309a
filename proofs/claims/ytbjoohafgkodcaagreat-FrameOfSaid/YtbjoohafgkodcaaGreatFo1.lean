/- FrameOf: the walk. -/
import Derived.Test.YtbjoohafgkodcaaGreatFc1
import Derived.Test.YtbjoohafgkodcaaGreatSs3
import Derived.Test.YtbjoohafgkodcaaGreatEnb
namespace Go.Proofs.YtbjoohafgkodcaaGreat
open Go Go.RowKit Go.Shelf
attribute [local go_sem] Oper.semAt_some

set_option maxRecDepth 100000 in
set_option maxHeartbeats 8000000 in
theorem fof_walk (m : Msg) (v : Value) (ver : Int) (w : World) (hm : MsgR w v m) (hn : ∀ i, i < 6 → m.n i < 18446744073709551616) :
    Calls Tryz.prog 5 #[v, .int .i64 ver] w fun e w' => e = .returned (.bool true) ∧ Grew w w' := by
  obtain ⟨lv, rfl, hl, -⟩ := hm
  obtain ⟨a, c, rfl⟩ := tx_len hl
  obtain ⟨W0, hW0⟩ : ∃ W0, W0 = w.alloc (.cells (msgA m (.slice a m.l.length c)) 29) := ⟨_, rfl⟩
  have g0 : Grew w W0 := by rw [hW0]; exact grew_alloc _ _
  have K0 := Lib.hid (show Blk W0 w.heap.size 29 (msgA m (.slice a m.l.length c)) by rw [hW0]; exact Blk.new _ _ _)
  have G0 := Lib.hid g0
  have HL := Lib.hid hl
  have HN := Lib.hid hn
  simp only [msgA] at hW0 ⊢
  clear g0 hl hn
  go_enter Tryz.func5, Tryz.ntmps5
  go_upto_region 1 with (fail)
  rw [← hW0]
  clear hW0
  go_wp2_with fail
  refine (live13_any _).mono ?_
  rintro e w1 ⟨rfl, g1⟩
  have G1 := Lib.hid (G0.out.trans g1)
  have D1 := Lib.hid g1
  have KSM := Lib.hid (small9_any m _ w1 (HL.out.grew G1.out))
  obtain ⟨c0, c1, c2, c3, c4, c5, c6, c7, c8, c9⟩ := mcells (K0.out.grew g1)
  simp only [msgA] at KSM
  clear g1
  go_wp2_with fail
  refine KSM.out.mono ?_
  rintro e w2 ⟨rfl, g2⟩
  have G2 := Lib.hid (G1.out.trans g2)
  have D2 := Lib.hid (D1.out.trans g2)
  clear g2 c0 c1 c2 c3 c4 c5 c6 c7 c8 c9 KSM
  cases hs : smallB m with
  | false =>
    clear hs
    go_wp2
    go_ret
    exact ⟨rfl, G2.out⟩
  | true =>
  have HE := Lib.hid (small_ok hs HN.out)
  have KE := Lib.hid (fun W (g : Grew w W) => frameof_any m a c ver W HE.out (HL.out.grew g))
  have KR := Lib.hid (fun W (g : Grew w W) => r10bytes_any m a c ver W hs HN.out (HL.out.grew g))
  have HOWN := Lib.hid (fun h => str_own (m := m) (ver := ver) h HN.out)
  have HLEN := Lib.hid (fun h => (small_msg (m := m) (ver := ver) h HN.out).2.1)
  have HZ := Lib.hid (fun h => chk_z (m := m) (l := ofKind m.k (rowsIn ver)) h)
  have HMB := Lib.hid (show (chkM m (ofKind m.k (rowsIn ver))).1 ≠ 0 → msgB m (ofKind m.k (rowsIn ver)) = [] from fun h => by unfold msgB; rw [if_pos h])
  obtain ⟨E, hE⟩ : ∃ E, E = chkM m (ofKind m.k (rowsIn ver)) := ⟨_, rfl⟩
  obtain ⟨B, hB⟩ : ∃ B, B = msgB m (ofKind m.k (rowsIn ver)) := ⟨_, rfl⟩
  obtain ⟨C, hC⟩ : ∃ C, C = cleanM m (ofKind m.k (rowsIn ver)) := ⟨_, rfl⟩
  rw [← hE, ← hB] at KE KR HMB HLEN
  rw [← hE] at HZ
  rw [← hE, ← hB, ← hC] at HOWN
  simp only [msgA, fltV] at KE KR
  clear hE hB hC hs
  obtain ⟨E1, E2⟩ := E
  by_cases he : E1 ≠ 0
  · have hb0 : B = [] := HMB.out he
    have hk0 : ofK E1 m.k = 0 := by unfold ofK; rw [if_neg he]
    have qe : ((E1 : Int) != 0) = true := by simp; omega
    subst hb0
    simp only [hk0, Int.natCast_zero] at KE
    clear he hk0 HMB HZ HOWN HLEN
    obtain ⟨c0, c1, c2, c3, c4, c5, c6, c7, c8, c9⟩ := mcells (K0.out.grew D2.out)
    go_wp2_with fail
    refine (KE.out _ G2.out).mono ?_
    rintro e w3 ⟨v3, rfl, ho3, g3⟩
    obtain ⟨a3, n3, c3', rfl, hn3⟩ := bs_shape (Sl.of_own ho3)
    obtain rfl : n3 = 0 := hn3.out
    obtain ⟨V3, hV3⟩ : ∃ V, V = (w3.alloc (.cells #[.int .u8 0, .slice a3 0 c3'] 42)).alloc (.cells #[.int .i64 (E1 : Nat), .int .i64 (E2 : Nat)] 32) := ⟨_, rfl⟩
    have gv : Grew w3 V3 := by rw [hV3]; exact grew22 _ _ _
    have KB3 := Lib.hid (show Blk V3 w3.heap.size 42 #[.int .u8 0, .slice a3 0 c3'] by rw [hV3]; exact (Blk.new _ _ _).alloc _)
    have KF3 := Lib.hid (show Blk V3 (w3.heap.size + 1) 32 #[.int .i64 (E1 : Nat), .int .i64 (E2 : Nat)] by rw [hV3]; exact Blk.at (by simp))
    have M3 := Lib.hid (g3.trans gv)
    have O3 := Lib.hid (Sl.of_own (own_grew ho3 gv))
    have G3 := Lib.hid (G2.out.trans M3.out)
    have D3 := Lib.hid (D2.out.trans M3.out)
    clear gv ho3 g3 c0 c1 c2 c3 c4 c5 c6 c7 c8 c9 KE
    go_upto_region 6 with (fail)
    rw [← hV3]
    clear hV3
    obtain ⟨c0, c1, c2, c3, c4, c5, c6, c7, c8, c9⟩ := mcells (K0.out.grew D3.out)
    go_wp2_with fail
    refine (KR.out _ G3.out).mono ?_
    rintro e w4 ⟨v4, rfl, ho4, g4⟩
    obtain ⟨a4, c4', rfl⟩ := bs_len (Sl.of_own ho4)
    obtain ⟨V4, hV4⟩ : ∃ V, V = w4.alloc (.cells #[.int .i64 (E1 : Nat), .int .i64 (E2 : Nat)] 32) := ⟨_, rfl⟩
    have gv : Grew w4 V4 := by rw [hV4]; exact grew_alloc _ _
    have KF4 := Lib.hid (show Blk V4 w4.heap.size 32 #[.int .i64 (E1 : Nat), .int .i64 (E2 : Nat)] by rw [hV4]; exact Blk.new _ _ _)
    have M4 := Lib.hid (g4.trans gv)
    have G4 := Lib.hid (G3.out.trans M4.out)
    obtain ⟨x0, x1, -, -⟩ := cells_of (KF3.out.grew M4.out)
    obtain ⟨y0, y1, -, -⟩ := cells_of KF4.out
    obtain ⟨z0, z1, -, -⟩ := cells2 (KB3.out.grew M4.out)
    have KS := Lib.hid (frsame_any (0, []) (0, []) (.slice a3 0 c3') (.slice none 0 0) V4 (O3.out.grew M4.out) (Sl.nil V4 1))
    rw [show (((0 : UInt8), ([] : List UInt8)) == (0, [])) = true by decide] at KS
    simp only [frV, show (((0 : UInt8).toNat : Nat) : Int) = 0 from rfl] at KS
    clear gv g4 c0 c1 c2 c3 c4 c5 c6 c7 c8 c9 KR ho4
    go_upto_region 7 with (fail)
    rw [← hV4]
    clear hV4
    go_wp2_with fail
    refine KS.out.mono ?_
    rintro e w5 ⟨rfl, g5⟩
    go_wp2
    go_ret
    exact ⟨rfl, G4.out.trans g5⟩
  have he0 : E1 = 0 := by omega
  subst he0
  have hz := HZ.out rfl
  simp only [Prod.mk.injEq, true_and] at hz
  subst hz
  obtain ⟨hst, hsm⟩ := HOWN.out rfl
  have hlen := HLEN.out rfl
  have hk0 : ofK 0 m.k = m.k := rfl
  simp only [hk0, Int.natCast_zero] at KE KR
  have KX := Lib.hid (fun W v (hb : Bs W v B) => sdecode_any m.k ver B v W hb (by omega))
  unfold StrP at KX
  rw [hst] at KX
  simp only [msgA, fltI, Int.natCast_zero] at KX
  have HSM := Lib.hid hsm
  clear hst hsm hlen hk0 HZ HMB HOWN HLEN he
  obtain ⟨c0, c1, c2, c3, c4, c5, c6, c7, c8, c9⟩ := mcells (K0.out.grew D2.out)
  go_wp2_with fail
  refine (KE.out _ G2.out).mono ?_
  rintro e w3 ⟨v3, rfl, ho3, g3⟩
  obtain ⟨a3, c3', rfl⟩ := bs_len (Sl.of_own ho3)
  obtain ⟨V3, hV3⟩ : ∃ V, V = (w3.alloc (.cells #[.int .u8 (m.k : Nat), .slice a3 B.length c3'] 42)).alloc (.cells #[.int .i64 0, .int .i64 0] 32) := ⟨_, rfl⟩
  have gv : Grew w3 V3 := by rw [hV3]; exact grew22 _ _ _
  have KB3 := Lib.hid (show Blk V3 w3.heap.size 42 #[.int .u8 (m.k : Nat), .slice a3 B.length c3'] by rw [hV3]; exact (Blk.new _ _ _).alloc _)
  have KF3 := Lib.hid (show Blk V3 (w3.heap.size + 1) 32 #[.int .i64 0, .int .i64 0] by rw [hV3]; exact Blk.at (by simp))
  have M3 := Lib.hid (g3.trans gv)
  have O3 := Lib.hid (Sl.of_own (own_grew ho3 gv))
  have G3 := Lib.hid (G2.out.trans M3.out)
  have D3 := Lib.hid (D2.out.trans M3.out)
  clear gv ho3 g3 c0 c1 c2 c3 c4 c5 c6 c7 c8 c9 KE
  go_upto_region 6 with (fail)
  rw [← hV3]
  clear hV3
  obtain ⟨c0, c1, c2, c3, c4, c5, c6, c7, c8, c9⟩ := mcells (K0.out.grew D3.out)
  go_wp2_with fail
  refine (KR.out _ G3.out).mono ?_
  rintro e w4 ⟨v4, rfl, ho4, g4⟩
  obtain ⟨a4, c4', rfl⟩ := bs_len (Sl.of_own ho4)
  obtain ⟨V4, hV4⟩ : ∃ V, V = w4.alloc (.cells #[.int .i64 0, .int .i64 0] 32) := ⟨_, rfl⟩
  have gv : Grew w4 V4 := by rw [hV4]; exact grew_alloc _ _
  have KF4 := Lib.hid (show Blk V4 w4.heap.size 32 #[.int .i64 0, .int .i64 0] by rw [hV4]; exact Blk.new _ _ _)
  have M4 := Lib.hid (g4.trans gv)
  have G4 := Lib.hid (G3.out.trans M4.out)
  have O4 := Lib.hid (Sl.of_own (own_grew ho4 gv))
  have D4 := Lib.hid (D3.out.trans M4.out)
  obtain ⟨y0, y1, -, -⟩ := cells_of KF4.out
  obtain ⟨z0, z1, -, -⟩ := cells2 (KB3.out.grew M4.out)
  clear gv g4 c0 c1 c2 c3 c4 c5 c6 c7 c8 c9 KR ho4
  go_upto_region 7 with (fail)
  rw [← hV4]
  clear hV4
  go_wp2_with fail
  refine (KX.out _ _ (O3.out.grew M4.out)).mono ?_
  rintro e w5 ⟨lv5, rfl, ho5, g5⟩
  obtain ⟨a5, c5', rfl⟩ := tx_len (Sl.of_own ho5)
  obtain ⟨V5, hV5⟩ : ∃ V, V = (w5.alloc (.cells (msgA C (.slice a5 C.l.length c5')) 29)).alloc (.cells #[.int .i64 0, .int .i64 0] 32) := ⟨_, rfl⟩
  have gv : Grew w5 V5 := by rw [hV5]; exact grew22 _ _ _
  have KM5 := Lib.hid (show Blk V5 w5.heap.size 29 (msgA C (.slice a5 C.l.length c5')) by rw [hV5]; exact (Blk.new _ _ _).alloc _)
  have KF5 := Lib.hid (show Blk V5 (w5.heap.size + 1) 32 #[.int .i64 0, .int .i64 0] by rw [hV5]; exact Blk.at (by simp))
  have T5 := Lib.hid (own_grew ho5 gv)
  have M5 := Lib.hid (g5.trans gv)
  have G5 := Lib.hid (G4.out.trans M5.out)
  have M35 := Lib.hid (M4.out.trans M5.out)
  have D5 := Lib.hid (D4.out.trans M5.out)
  obtain ⟨x0, x1, -, -⟩ := cells_of (KF3.out.grew M35.out)
  obtain ⟨z0, z1, -, -⟩ := cells2 (KB3.out.grew M35.out)
  obtain ⟨c0, c1, c2, c3, c4, c5, c6, c7, c8, c9⟩ := mcells (K0.out.grew D5.out)
  have KQ := Lib.hid (same_any B B _ _ V5 (O3.out.grew M35.out) (O4.out.grew M5.out))
  rw [show (B == B) = true by simp] at KQ
  simp only [msgA] at hV5
  clear gv ho5 g5 KX
  go_upto_region 10 with (fail)
  rw [← hV5]
  clear hV5
  go_wp2_with fail
  refine KQ.out.mono ?_
  rintro e w6 ⟨rfl, hd6⟩
  have M6 := Lib.hid hd6.grew
  have KS := Lib.hid (vsame_any C m (.slice a5 C.l.length c5') (.slice a m.l.length c) w6 ((Sl.of_own T5.out).grew M6.out) (HL.out.grew (G5.out.trans M6.out)))
  rw [HSM.out] at KS
  simp only [msgA] at KS
  clear hd6 c0 c1 c2 c3 c4 c5 c6 c7 c8 c9 x0 x1 z0 z1 KQ
  obtain ⟨c0, c1, c2, c3, c4, c5, c6, c7, c8, c9⟩ := mcells (K0.out.grew (D5.out.trans M6.out))
  obtain ⟨d0, d1, d2, d3, d4, d5, d6, d7, d8, d9⟩ := mcells (KM5.out.grew M6.out)
  obtain ⟨x0, x1, -, -⟩ := cells_of (KF5.out.grew M6.out)
  go_wp2_with fail
  refine KS.out.mono ?_
  rintro e w7 ⟨rfl, g7⟩
  go_wp2
  go_ret
  exact ⟨rfl, G5.out.trans (M6.out.trans g7)⟩
end Go.Proofs.YtbjoohafgkodcaaGreat
