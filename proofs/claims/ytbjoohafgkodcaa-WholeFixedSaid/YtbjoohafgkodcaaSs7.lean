/- StrictWithin: the walk. -/
import Derived.Test.YtbjoohafgkodcaaSs6
import Derived.Test.YtbjoohafgkodcaaSr2
namespace Go.Proofs.Ytbjoohafgkodcaa
open Go Go.RowKit Go.Shelf
attribute [local go_sem] Oper.semAt_some

theorem both_err {k : Nat} {ver : Int} {b : List UInt8} (h : (decM k ver b).2.1 ≠ 0) : bothM k ver b = (mZ, [], (decM k ver b).2) := by unfold bothM; rw [if_pos h]
theorem both_ok {k : Nat} {ver : Int} {b : List UInt8} (h : (decM k ver b).2.1 = 0) : bothM k ver b = ((decM k ver b).1, msgB (decM k ver b).1 (ofKind k (rowsIn ver)), 0, 0) := by unfold bothM; rw [if_neg (by omega)]
set_option maxRecDepth 100000 in
set_option maxHeartbeats 8000000 in
theorem swithin_walk (k : Nat) (ver : Int) (l : List UInt8) (v : Value) (w : World) (hb : Bs w v l) :
    Calls Try.prog 8 #[.int .u8 k, .int .i64 ver, v] w fun e w' => e = .returned (.bool true) ∧ Grew w w' := by
  obtain ⟨a, c, rfl⟩ := bs_len hb
  have HB := Lib.hid hb
  clear hb
  go_enter Try.func8, Try.ntmps8
  go_wp2_with fail
  refine (live12_any _).mono ?_
  rintro e w1 ⟨rfl, g1⟩
  have G1 := Lib.hid g1
  clear g1
  by_cases hl : 10000 < l.length
  · have q : decide ((l.length : Int) > 10000) = true := decide_eq_true (by omega)
    go_wp2
    go_ret
    exact ⟨rfl, G1.out⟩
  have q : decide ((l.length : Int) > 10000) = false := decide_eq_false (by omega)
  have KD := Lib.hid (fun W (g : Grew w W) => ldecode_any k ver l _ W (HB.out.grew g) (by omega))
  have KF := Lib.hid (fun W (g : Grew w W) => sfix_any k ver l _ W (HB.out.grew g) (by omega))
  have KX := Lib.hid (fun W (g : Grew w W) => sdecode_any k ver l _ W (HB.out.grew g) (by omega))
  unfold DecP at KD
  unfold FixP at KF
  unfold StrP at KX
  by_cases hE : (decM k ver l).2.1 ≠ 0
  · rw [both_err hE] at KF
    rw [str_err hE] at KX
    obtain ⟨D, hD⟩ : ∃ D, D = decM k ver l := ⟨_, rfl⟩
    rw [← hD] at KD KF KX hE
    obtain ⟨Dm, De, Da⟩ := D
    simp only [fltI, msgA] at KD KF KX hE
    have qd : ((De : Int) != 0) = true := by simp; omega
    clear hD hl hE
    go_wp2_with fail
    refine (KD.out _ G1.out).mono ?_
    rintro e w2 ⟨lv, rfl, ho2, g2⟩
    obtain ⟨a2, c2, rfl⟩ := tx_len (Sl.of_own ho2)
    obtain ⟨V2, hV2⟩ : ∃ V, V = (w2.alloc (.cells (msgA Dm (.slice a2 Dm.l.length c2)) 29)).alloc (.cells #[.int .i64 (De : Nat), .int .i64 Da] 32) := ⟨_, rfl⟩
    have gv : Grew w2 V2 := by rw [hV2]; exact grew22 _ _ _
    have KF2 := Lib.hid (show Blk V2 (w2.heap.size + 1) 32 #[.int .i64 (De : Nat), .int .i64 Da] by rw [hV2]; exact Blk.at (by simp))
    have G2 := Lib.hid ((G1.out.trans g2).trans gv)
    simp only [msgA] at hV2
    clear gv ho2 g2
    go_upto_region 6 with (fail)
    rw [← hV2]
    clear hV2
    go_wp2_with fail
    refine (KF.out _ G2.out).mono ?_
    rintro e w3 ⟨ov, rfl, ho3, g3⟩
    obtain ⟨a3, c3, rfl⟩ := bs_len (Sl.of_own ho3)
    obtain ⟨V3, hV3⟩ : ∃ V, V = w3.alloc (.cells #[.int .i64 (De : Nat), .int .i64 Da] 32) := ⟨_, rfl⟩
    have gv : Grew w3 V3 := by rw [hV3]; exact grew_alloc _ _
    have KF3 := Lib.hid (show Blk V3 w3.heap.size 32 #[.int .i64 (De : Nat), .int .i64 Da] by rw [hV3]; exact Blk.new _ _ _)
    have M3 := Lib.hid (g3.trans gv)
    have G3 := Lib.hid (G2.out.trans M3.out)
    clear gv ho3 g3
    go_upto_region 7 with (fail)
    rw [← hV3]
    clear hV3
    go_wp2_with fail
    refine (KX.out _ G3.out).mono ?_
    rintro e w4 ⟨lv, rfl, ho4, g4⟩
    obtain ⟨a4, c4, rfl⟩ := tx_len (Sl.of_own ho4)
    obtain ⟨V4, hV4⟩ : ∃ V, V = (w4.alloc (.cells (msgA mZ (.slice a4 mZ.l.length c4)) 29)).alloc (.cells #[.int .i64 (De : Nat), .int .i64 Da] 32) := ⟨_, rfl⟩
    have gv : Grew w4 V4 := by rw [hV4]; exact grew22 _ _ _
    have KF4 := Lib.hid (show Blk V4 (w4.heap.size + 1) 32 #[.int .i64 (De : Nat), .int .i64 Da] by rw [hV4]; exact Blk.at (by simp))
    have M4 := Lib.hid (g4.trans gv)
    have G4 := Lib.hid (G3.out.trans M4.out)
    simp only [msgA] at hV4
    obtain ⟨x0, x1, -, -⟩ := cells_of (KF2.out.grew (M3.out.trans M4.out))
    obtain ⟨y0, y1, -, -⟩ := cells_of (KF3.out.grew M4.out)
    obtain ⟨z0, z1, -, -⟩ := cells_of KF4.out
    clear gv ho4 g4
    go_upto_region 8 with (fail)
    rw [← hV4]
    clear hV4
    go_wp2
    go_ret
    exact ⟨rfl, G4.out⟩
  · have hE0 : (decM k ver l).2.1 = 0 := by omega
    have hz := decM_z hE0
    rw [both_ok hE0] at KF
    have hfl := fix_len hE0
    have hfx := fix_law hE0
    have hst := str_iff hE0
    obtain ⟨B, hB⟩ : ∃ B, B = msgB (decM k ver l).1 (ofKind k (rowsIn ver)) := ⟨_, rfl⟩
    rw [← hB] at KF hfl hfx hst
    obtain ⟨Dm, hDm⟩ : ∃ D, D = (decM k ver l).1 := ⟨_, rfl⟩
    rw [← hDm] at KF hfx hst hz
    rw [hz] at KD
    have KO := Lib.hid (fun W v (hb : Bs W v B) => sdecode_any k ver B v W hb (by omega))
    unfold StrP at KO
    obtain ⟨O, hO⟩ : ∃ O, O = (strM k ver B).1 := ⟨_, rfl⟩
    have e2 : strM k ver B = (O, 0, 0) := Prod.ext hO.symm hfx.1
    rw [e2] at KO hfx
    have HS := Lib.hid (show sameB O Dm = true from hfx.2)
    obtain ⟨S, hS⟩ : ∃ S, S = strM k ver l := ⟨_, rfl⟩
    rw [← hS] at KX hst
    obtain ⟨Sm, Se, Sa⟩ := S
    have HC := Lib.hid (show (Se = 0 ∧ Sm = Dm ∧ l = B) ∨ Se = 3 by
      rcases hst with ⟨h1, h2⟩ | ⟨h1, h2, h3⟩
      · simp only [Prod.mk.injEq] at h1
        exact .inl ⟨h1.2.1, h1.1, h2⟩
      · exact .inr h2)
    simp only [fltI, msgA, Int.natCast_zero] at KD KF KX KO
    clear hz hfl hfx hst hB hDm hO e2 hS hE hE0 hl
    go_wp2_with fail
    refine (KD.out _ G1.out).mono ?_
    rintro e w2 ⟨lv, rfl, ho2, g2⟩
    obtain ⟨a2, c2, rfl⟩ := tx_len (Sl.of_own ho2)
    obtain ⟨V2, hV2⟩ : ∃ V, V = (w2.alloc (.cells (msgA Dm (.slice a2 Dm.l.length c2)) 29)).alloc (.cells #[.int .i64 0, .int .i64 0] 32) := ⟨_, rfl⟩
    have gv : Grew w2 V2 := by rw [hV2]; exact grew22 _ _ _
    have KM2 := Lib.hid (show Blk V2 w2.heap.size 29 (msgA Dm (.slice a2 Dm.l.length c2)) by rw [hV2]; exact (Blk.new _ _ _).alloc _)
    have KF2 := Lib.hid (show Blk V2 (w2.heap.size + 1) 32 #[.int .i64 0, .int .i64 0] by rw [hV2]; exact Blk.at (by simp))
    have HO2 := Lib.hid (own_grew ho2 gv)
    have G2 := Lib.hid ((G1.out.trans g2).trans gv)
    simp only [msgA] at hV2
    clear gv ho2 g2
    go_upto_region 6 with (fail)
    rw [← hV2]
    clear hV2
    go_wp2_with fail
    refine (KF.out _ G2.out).mono ?_
    rintro e w3 ⟨ov, rfl, ho3, g3⟩
    obtain ⟨a3, c3, rfl⟩ := bs_len (Sl.of_own ho3)
    obtain ⟨V3, hV3⟩ : ∃ V, V = w3.alloc (.cells #[.int .i64 0, .int .i64 0] 32) := ⟨_, rfl⟩
    have gv : Grew w3 V3 := by rw [hV3]; exact grew_alloc _ _
    have KF3 := Lib.hid (show Blk V3 w3.heap.size 32 #[.int .i64 0, .int .i64 0] by rw [hV3]; exact Blk.new _ _ _)
    have M3 := Lib.hid (g3.trans gv)
    have HO3 := Lib.hid (own_grew ho3 gv)
    have G3 := Lib.hid (G2.out.trans M3.out)
    clear gv ho3 g3
    go_upto_region 7 with (fail)
    rw [← hV3]
    clear hV3
    go_wp2_with fail
    refine (KX.out _ G3.out).mono ?_
    rintro e w4 ⟨lv, rfl, ho4, g4⟩
    obtain ⟨a4, c4, rfl⟩ := tx_len (Sl.of_own ho4)
    obtain ⟨V4, hV4⟩ : ∃ V, V = (w4.alloc (.cells (msgA Sm (.slice a4 Sm.l.length c4)) 29)).alloc (.cells #[.int .i64 (Se : Nat), .int .i64 Sa] 32) := ⟨_, rfl⟩
    have gv : Grew w4 V4 := by rw [hV4]; exact grew22 _ _ _
    have KM4 := Lib.hid (show Blk V4 w4.heap.size 29 (msgA Sm (.slice a4 Sm.l.length c4)) by rw [hV4]; exact (Blk.new _ _ _).alloc _)
    have KF4 := Lib.hid (show Blk V4 (w4.heap.size + 1) 32 #[.int .i64 (Se : Nat), .int .i64 Sa] by rw [hV4]; exact Blk.at (by simp))
    have M4 := Lib.hid (g4.trans gv)
    have HO4 := Lib.hid (own_grew ho4 gv)
    have G4 := Lib.hid (G3.out.trans M4.out)
    simp only [msgA] at hV4
    obtain ⟨x0, x1, -, -⟩ := cells_of (KF2.out.grew (M3.out.trans M4.out))
    clear gv ho4 g4 KD KF KX
    go_upto_region 8 with (fail)
    rw [← hV4]
    clear hV4
    go_wp2_with fail
    refine (KO.out V4 _ (Sl.of_own (own_grew HO3.out M4.out))).mono ?_
    rintro e w5 ⟨lv, rfl, ho5, g5⟩
    obtain ⟨a5, c5, rfl⟩ := tx_len (Sl.of_own ho5)
    obtain ⟨V5, hV5⟩ : ∃ V, V = (w5.alloc (.cells (msgA O (.slice a5 O.l.length c5)) 29)).alloc (.cells #[.int .i64 0, .int .i64 0] 32) := ⟨_, rfl⟩
    have gv : Grew w5 V5 := by rw [hV5]; exact grew22 _ _ _
    have km5 : Blk V5 w5.heap.size 29 (msgA O (.slice a5 O.l.length c5)) := by rw [hV5]; exact (Blk.new _ _ _).alloc _
    have kf5 : Blk V5 (w5.heap.size + 1) 32 #[.int .i64 0, .int .i64 0] := by rw [hV5]; exact Blk.at (by simp)
    have M5 := Lib.hid (g5.trans gv)
    have G5 := Lib.hid (G4.out.trans M5.out)
    have M25 := Lib.hid ((M3.out.trans M4.out).trans M5.out)
    have KS := Lib.hid (vsame_any O Dm (.slice a5 O.l.length c5) (.slice a2 Dm.l.length c2) V5 (Sl.of_own (own_grew ho5 gv)) (Sl.of_own (own_grew HO2.out M25.out)))
    rw [HS.out] at KS
    simp only [msgA] at hV5 KS
    clear x0 x1
    obtain ⟨y0, y1, -, -⟩ := cells_of (KF3.out.grew (M4.out.trans M5.out))
    obtain ⟨i0, i1, -, -⟩ := cells_of kf5
    obtain ⟨c0, c1, c2', c3', c4', c5', c6, c7, c8, c9⟩ := mcells (KM2.out.grew M25.out)
    obtain ⟨d0, d1, d2, d3, d4, d5, d6, d7, d8, d9⟩ := mcells km5
    clear gv ho5 g5 km5 kf5 KO
    go_upto_region 11 with (fail)
    rw [← hV5]
    clear hV5
    go_wp2_with fail
    refine KS.out.mono ?_
    rintro e w6 ⟨rfl, g6⟩
    have G6 := Lib.hid (G5.out.trans g6)
    obtain ⟨z0, z1, -, -⟩ := cells_of (KF4.out.grew (M5.out.trans g6))
    have M26 := Lib.hid (M25.out.trans g6)
    have M46 := Lib.hid (M5.out.trans g6)
    clear g6 c0 c1 c2' c3' c4' c5' c6 c7 c8 c9 d0 d1 d2 d3 d4 d5 d6 d7 d8 d9 y0 y1 i0 i1 KS
    rcases HC.out with ⟨h0, rfl, rfl⟩ | h3
    · have qs : ((Se : Int) != 0) = false := by simp; omega
      have KT := Lib.hid (vsame_any Sm Sm (.slice a4 Sm.l.length c4) (.slice a2 Sm.l.length c2) w6 (Sl.of_own (own_grew HO4.out M46.out)) (Sl.of_own (own_grew HO2.out M26.out)))
      rw [same_refl3] at KT
      simp only [msgA] at KT
      obtain ⟨c0, c1, c2', c3', c4', c5', c6, c7, c8, c9⟩ := mcells (KM2.out.grew M26.out)
      obtain ⟨d0, d1, d2, d3, d4, d5, d6, d7, d8, d9⟩ := mcells (KM4.out.grew M46.out)
      clear h0
      go_wp2_with fail
      refine KT.out.mono ?_
      rintro e w7 ⟨rfl, g7⟩
      have G7 := Lib.hid (G6.out.trans g7)
      have KQ := Lib.hid (same_any l l _ _ w7 (HB.out.grew G7.out) (Sl.of_own (own_grew HO3.out (M46.out |> fun h => (M4.out.trans h).trans g7))))
      rw [show (l == l) = true by simp] at KQ
      clear g7 KT c0 c1 c2' c3' c4' c5' c6 c7 c8 c9 d0 d1 d2 d3 d4 d5 d6 d7 d8 d9
      go_wp2_with fail
      refine KQ.out.mono ?_
      rintro e w8 ⟨rfl, hd8⟩
      go_wp2
      go_ret
      exact ⟨rfl, G7.out.trans hd8.grew⟩
    · have qs : ((Se : Int) != 0) = true := by simp; omega
      have q3 : ((Se : Int) != 3) = false := by simp; omega
      clear h3
      go_wp2
      go_ret
      exact ⟨rfl, G6.out⟩
end Go.Proofs.Ytbjoohafgkodcaa
