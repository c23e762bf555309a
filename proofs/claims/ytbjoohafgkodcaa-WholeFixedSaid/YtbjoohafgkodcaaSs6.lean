/- StrictBack: the walk. -/
import Derived.Test.YtbjoohafgkodcaaSs5
namespace Go.Proofs.Ytbjoohafgkodcaa
open Go Go.RowKit Go.Shelf
attribute [local go_sem] Oper.semAt_some

theorem str_zero (k : Nat) (ver : Int) (b : List UInt8) : (strM k ver b).2.1 ≠ 0 → (strM k ver b).1 = mZ := by
  intro h
  by_cases h1 : (decM k ver b).2.1 ≠ 0
  · rw [str_err h1]
  · rcases str_iff (k := k) (ver := ver) (b := b) (by omega) with ⟨e, -⟩ | ⟨e, -⟩
    · rw [e] at h; exact absurd rfl h
    · exact e
set_option maxRecDepth 100000 in
set_option maxHeartbeats 8000000 in
theorem sback_walk (m : Msg) (v : Value) (ver : Int) (l : List UInt8) (bv : Value) (w : World) (hm : MsgR w v m) (hn : ∀ i, i < 6 → m.n i < 18446744073709551616) (hb : Bs w bv l) :
    Calls Try.prog 7 #[v, .int .i64 ver, bv] w fun e w' => e = .returned (.bool true) ∧ Grew w w' := by
  obtain ⟨lv, rfl, hl, -⟩ := hm
  obtain ⟨a, c, rfl⟩ := tx_len hl
  obtain ⟨xa, xc, rfl⟩ := bs_len hb
  obtain ⟨W0, hW0⟩ : ∃ W0, W0 = w.alloc (.cells (msgA m (.slice a m.l.length c)) 29) := ⟨_, rfl⟩
  have g0 : Grew w W0 := by rw [hW0]; exact grew_alloc _ _
  have K0 := Lib.hid (show Blk W0 w.heap.size 29 (msgA m (.slice a m.l.length c)) by rw [hW0]; exact Blk.new _ _ _)
  have G0 := Lib.hid g0
  have HL := Lib.hid hl
  have HB := Lib.hid hb
  have HN := Lib.hid hn
  simp only [msgA] at hW0 ⊢
  clear g0 hl hb hn
  go_enter Try.func7, Try.ntmps7
  go_upto_region 1 with (fail)
  rw [← hW0]
  clear hW0
  go_wp2_with fail
  refine (live12_any _).mono ?_
  rintro e w1 ⟨rfl, g1⟩
  have G1 := Lib.hid (G0.out.trans g1)
  have D1 := Lib.hid g1
  have KSM := Lib.hid (small9_any m _ w1 (HL.out.grew G1.out))
  obtain ⟨c0, c1, c2, c3, c4, c5, c6, c7, c8, c9⟩ := mcells (K0.out.grew g1)
  simp only [msgA] at KSM
  clear g1
  go_wp2_with fail
  refine KSM.out.mono ?_
  rintro e w2 ⟨rfl, g2⟩
  have G2 := Lib.hid (G1.out.trans g2)
  have D2 := Lib.hid (D1.out.trans g2)
  clear g2 c0 c1 c2 c3 c4 c5 c6 c7 c8 c9 KSM
  cases hs : smallB m with
  | false =>
    clear hs
    go_wp2
    go_ret
    exact ⟨rfl, G2.out⟩
  | true =>
  have HE := Lib.hid (small_ok hs HN.out)
  clear hs
  by_cases hlx : 10000 < l.length
  · have q : decide ((l.length : Int) > 10000) = true := decide_eq_true (by omega)
    go_wp2
    go_ret
    exact ⟨rfl, G2.out⟩
  have q : decide ((l.length : Int) > 10000) = false := decide_eq_false (by omega)
  have KDB := Lib.hid (fun W (g : Grew w W) => sdecode_any m.k ver l (.slice xa l.length xc) W (HB.out.grew g) (by omega))
  have HST := Lib.hid (fun h => str_ok (k := m.k) (ver := ver) (b := l) h)
  have HSE := Lib.hid (str_zero m.k ver l)
  have KE := Lib.hid (fun W (g : Grew w W) => ebytes_any m a c ver W HE.out (HL.out.grew g))
  have HOWN := Lib.hid (fun h => str_own (m := m) (ver := ver) h HN.out)
  have HLEN := Lib.hid (fun h => (small_msg (m := m) (ver := ver) h HN.out).2.1)
  have HDK := Lib.hid (fun h => dec_good (k := m.k) (ver := ver) (b := l) h)
  obtain ⟨D, hD⟩ : ∃ D, D = strM m.k ver l := ⟨_, rfl⟩
  unfold StrP at KDB
  rw [← hD] at KDB HST HSE
  obtain ⟨Dm, De, Da⟩ := D
  have HDC := Lib.hid (fun (h : De = 0) lv cv W (ht : Tx W (.slice lv Dm.l.length cv) Dm.l) => by
    obtain ⟨h1, h2, h3⟩ := HST.out h
    obtain ⟨q1, q2, q3⟩ := HDK.out h1
    have hDm : Dm = (decM m.k ver l).1 := congrArg Prod.fst h3
    rw [← hDm] at q1 q2 q3 h2
    have ho := chk_okE (m := Dm) (ver := ver) (by rw [q1, q2]) q3
    have hk := ebytes_any Dm lv cv ver W ho ht
    rw [q1, q2, ← h2] at hk
    exact hk)
  have HDZ := Lib.hid (fun (h : De ≠ 0) => (show Dm = mZ from HSE.out h))
  obtain ⟨E, hE⟩ : ∃ E, E = chkM m (ofKind m.k (rowsIn ver)) := ⟨_, rfl⟩
  obtain ⟨B, hB⟩ : ∃ B, B = msgB m (ofKind m.k (rowsIn ver)) := ⟨_, rfl⟩
  rw [← hE, ← hB] at KE HOWN
  rw [← hE, ← hB] at HLEN
  obtain ⟨M, hM⟩ : ∃ M, M = cleanM m (ofKind m.k (rowsIn ver)) := ⟨_, rfl⟩
  rw [← hM] at HOWN
  simp only [msgA, fltV] at KE
  simp only [msgA, fltI] at KDB
  clear hD hE hB hM HST HSE HDK hlx
  obtain ⟨c0, c1, c2, c3, c4, c5, c6, c7, c8, c9⟩ := mcells (K0.out.grew D2.out)
  go_wp2_with fail
  refine (KE.out _ G2.out).mono ?_
  rintro e w3 ⟨v3, rfl, ho3, g3⟩
  obtain ⟨a3, c3', rfl⟩ := bs_len (Sl.of_own ho3)
  obtain ⟨V3, hV3⟩ : ∃ V, V = w3.alloc (.cells #[.int .i64 (E.1 : Nat), .int .i64 (E.2 : Nat)] 32) := ⟨_, rfl⟩
  have gv : Grew w3 V3 := by rw [hV3]; exact grew_alloc _ _
  have kf3 : Blk V3 w3.heap.size 32 #[.int .i64 (E.1 : Nat), .int .i64 (E.2 : Nat)] := by rw [hV3]; exact Blk.new _ _ _
  have HO3 := Lib.hid (own_grew ho3 gv)
  have D3 := Lib.hid (D2.out.trans (g3.trans gv))
  have G3 := Lib.hid (G2.out.trans (g3.trans gv))
  obtain ⟨x0, x1, -, -⟩ := cells_of kf3
  clear g3 gv ho3 c0 c1 c2 c3 c4 c5 c6 c7 c8 c9 KE kf3
  obtain ⟨c0, c1, c2, c3, c4, c5, c6, c7, c8, c9⟩ := mcells (K0.out.grew D3.out)
  go_upto_region 6 with (fail)
  rw [← hV3]
  clear hV3
  by_cases he : E.1 = 0
  · have qe : ((E.1 : Int) == 0) = true := by simp; omega
    obtain ⟨hdec, hsame⟩ := HOWN.out he
    have hlen := HLEN.out he
    have KD1 := Lib.hid (fun W (g : Grew V3 W) => sdecode_any m.k ver B _ W (Sl.of_own (own_grew HO3.out g)) (by omega))
    unfold StrP at KD1
    rw [hdec] at KD1
    simp only [msgA, fltI] at KD1
    have HSAME := Lib.hid hsame
    clear hdec hlen he hsame
    go_wp2_with fail
    refine (KD1.out _ (Below.refl _ _)).mono ?_
    rintro e w4 ⟨lv4, rfl, ho4, g4⟩
    obtain ⟨a4, c4', rfl⟩ := tx_len (Sl.of_own ho4)
    obtain ⟨V4, hV4⟩ : ∃ V, V = (w4.alloc (.cells (msgA M (.slice a4 M.l.length c4')) 29)).alloc (.cells #[.int .i64 (0 : Nat), .int .i64 0] 32) := ⟨_, rfl⟩
    have gv : Grew w4 V4 := by rw [hV4]; exact grew22 _ _ _
    have KM4 := Lib.hid (show Blk V4 w4.heap.size 29 (msgA M (.slice a4 M.l.length c4')) by rw [hV4]; exact (Blk.new _ _ _).alloc _)
    have KF4 := Lib.hid (show Blk V4 (w4.heap.size + 1) 32 #[.int .i64 (0 : Nat), .int .i64 0] by rw [hV4]; exact Blk.at (by simp))
    have M4 := Lib.hid (g4.trans gv)
    have D4 := Lib.hid (D3.out.trans M4.out)
    have G4 := Lib.hid (G3.out.trans M4.out)
    have KS := Lib.hid (vsame_any M m (.slice a4 M.l.length c4') (.slice a m.l.length c) V4 (Sl.of_own (own_grew ho4 gv)) (HL.out.grew G4.out))
    rw [HSAME.out] at KS
    simp only [msgA, Int.natCast_zero] at hV4
    clear g4 gv ho4 c0 c1 c2 c3 c4 c5 c6 c7 c8 c9 KD1 x0 x1
    obtain ⟨c0, c1, c2, c3, c4, c5, c6, c7, c8, c9⟩ := mcells (K0.out.grew D4.out)
    obtain ⟨d0, d1, d2, d3, d4, d5, d6, d7, d8, d9⟩ := mcells KM4.out
    obtain ⟨y0, y1, -, -⟩ := cells_of KF4.out
    simp only [msgA] at KS
    go_upto_region 8 with (fail)
    rw [← hV4]
    clear hV4
    go_wp2_with fail
    refine KS.out.mono ?_
    rintro e w6 ⟨rfl, g6⟩
    have D6 := Lib.hid (D4.out.trans g6)
    have G6 := Lib.hid (G4.out.trans g6)
    clear c0 c1 c2 c3 c4 c5 c6 c7 c8 c9 d0 d1 d2 d3 d4 d5 d6 d7 d8 d9 y0 y1 KS g6
    obtain ⟨c0, c1, c2, c3, c4, c5, c6, c7, c8, c9⟩ := mcells (K0.out.grew D6.out)
    go_wp2_with fail
    refine (KDB.out _ G6.out).mono ?_
    rintro e w8 ⟨lv8, rfl, ho8, g8⟩
    obtain ⟨a8, c8', rfl⟩ := tx_len (Sl.of_own ho8)
    obtain ⟨V8, hV8⟩ : ∃ V, V = (w8.alloc (.cells (msgA Dm (.slice a8 Dm.l.length c8')) 29)).alloc (.cells #[.int .i64 (De : Nat), .int .i64 Da] 32) := ⟨_, rfl⟩
    have gv : Grew w8 V8 := by rw [hV8]; exact grew22 _ _ _
    have km8 : Blk V8 w8.heap.size 29 (msgA Dm (.slice a8 Dm.l.length c8')) := by rw [hV8]; exact (Blk.new _ _ _).alloc _
    have kf8 : Blk V8 (w8.heap.size + 1) 32 #[.int .i64 (De : Nat), .int .i64 Da] := by rw [hV8]; exact Blk.at (by simp)
    have T8 := Lib.hid (Sl.of_own (own_grew ho8 gv))
    have G8 := Lib.hid ((G6.out.trans g8).trans gv)
    obtain ⟨x0, x1, -, -⟩ := cells_of kf8
    clear c0 c1 c2 c3 c4 c5 c6 c7 c8 c9
    obtain ⟨c0, c1, c2, c3, c4, c5, c6, c7, c8, c9⟩ := mcells km8
    simp only [msgA] at hV8
    clear ho8 g8 gv km8 kf8
    go_upto_region 11 with (fail)
    rw [← hV8]
    clear hV8
    by_cases hde : De = 0
    · have qd : ((De : Int) != 0) = false := by simp; omega
      have KC := Lib.hid (HDC.out hde _ _ V8 T8.out)
      simp only [msgA, fltV, Int.natCast_zero] at KC
      clear hde
      go_wp2_with fail
      refine KC.out.mono ?_
      rintro e w9 ⟨v9, rfl, ho9, g9⟩
      obtain ⟨a9, c9', rfl⟩ := bs_len (Sl.of_own ho9)
      obtain ⟨V9, hV9⟩ : ∃ V, V = w9.alloc (.cells #[.int .i64 0, .int .i64 0] 32) := ⟨_, rfl⟩
      have gv9 : Grew w9 V9 := by rw [hV9]; exact grew_alloc _ _
      have kf9 : Blk V9 w9.heap.size 32 #[.int .i64 0, .int .i64 0] := by rw [hV9]; exact Blk.new _ _ _
      have G9 := Lib.hid (G8.out.trans (g9.trans gv9))
      have KQ := Lib.hid (same_any l l _ _ V9 (Sl.of_own (own_grew ho9 gv9)) (HB.out.grew G9.out))
      have hqq : (l == l) = true := by simp
      rw [hqq] at KQ
      obtain ⟨z0, z1, -, -⟩ := cells_of kf9
      clear ho9 gv9 kf9 g9 x0 x1 c0 c1 c2 c3 c4 c5 c6 c7 c8 c9 hqq KC
      go_upto_region 14 with (fail)
      rw [← hV9]
      clear hV9
      go_wp2_with fail
      refine KQ.out.mono ?_
      rintro e w10 ⟨rfl, hd10⟩
      have G10 := Lib.hid (G9.out.trans hd10.grew)
      clear hd10 z0 z1 KQ
      go_wp2
      go_ret
      exact ⟨rfl, G10.out⟩
    · have qd : ((De : Int) != 0) = true := by simp; omega
      have KS := Lib.hid (vsame_any Dm mZ (.slice a8 Dm.l.length c8') (.slice none 0 0) V8 T8.out (Sl.nil V8 1))
      rw [HDZ.out hde, same_refl3] at KS
      rw [HDZ.out hde] at c0 c1 c2 c3 c4 c5 c6 c7 c8 c9
      simp only [msgA, mZ, Int.natCast_zero] at KS c0 c1 c2 c3 c4 c5 c6 c7 c8 c9
      clear hde
      go_wp2_with fail
      refine KS.out.mono ?_
      rintro e w9 ⟨rfl, g9⟩
      go_wp2
      go_ret
      exact ⟨rfl, G8.out.trans g9⟩
  · have qe : ((E.1 : Int) == 0) = false := by simp; omega
    clear he
    go_wp2_with fail
    refine (KDB.out _ G3.out).mono ?_
    rintro e w8 ⟨lv8, rfl, ho8, g8⟩
    obtain ⟨a8, c8', rfl⟩ := tx_len (Sl.of_own ho8)
    obtain ⟨V8, hV8⟩ : ∃ V, V = (w8.alloc (.cells (msgA Dm (.slice a8 Dm.l.length c8')) 29)).alloc (.cells #[.int .i64 (De : Nat), .int .i64 Da] 32) := ⟨_, rfl⟩
    have gv : Grew w8 V8 := by rw [hV8]; exact grew22 _ _ _
    have km8 : Blk V8 w8.heap.size 29 (msgA Dm (.slice a8 Dm.l.length c8')) := by rw [hV8]; exact (Blk.new _ _ _).alloc _
    have kf8 : Blk V8 (w8.heap.size + 1) 32 #[.int .i64 (De : Nat), .int .i64 Da] := by rw [hV8]; exact Blk.at (by simp)
    have T8 := Lib.hid (Sl.of_own (own_grew ho8 gv))
    have G8 := Lib.hid ((G3.out.trans g8).trans gv)
    obtain ⟨x0, x1, -, -⟩ := cells_of kf8
    clear c0 c1 c2 c3 c4 c5 c6 c7 c8 c9
    obtain ⟨c0, c1, c2, c3, c4, c5, c6, c7, c8, c9⟩ := mcells km8
    simp only [msgA] at hV8
    clear ho8 g8 gv km8 kf8
    go_upto_region 11 with (fail)
    rw [← hV8]
    clear hV8
    by_cases hde : De = 0
    · have qd : ((De : Int) != 0) = false := by simp; omega
      have KC := Lib.hid (HDC.out hde _ _ V8 T8.out)
      simp only [msgA, fltV, Int.natCast_zero] at KC
      clear hde
      go_wp2_with fail
      refine KC.out.mono ?_
      rintro e w9 ⟨v9, rfl, ho9, g9⟩
      obtain ⟨a9, c9', rfl⟩ := bs_len (Sl.of_own ho9)
      obtain ⟨V9, hV9⟩ : ∃ V, V = w9.alloc (.cells #[.int .i64 0, .int .i64 0] 32) := ⟨_, rfl⟩
      have gv9 : Grew w9 V9 := by rw [hV9]; exact grew_alloc _ _
      have kf9 : Blk V9 w9.heap.size 32 #[.int .i64 0, .int .i64 0] := by rw [hV9]; exact Blk.new _ _ _
      have G9 := Lib.hid (G8.out.trans (g9.trans gv9))
      have KQ := Lib.hid (same_any l l _ _ V9 (Sl.of_own (own_grew ho9 gv9)) (HB.out.grew G9.out))
      have hqq : (l == l) = true := by simp
      rw [hqq] at KQ
      obtain ⟨z0, z1, -, -⟩ := cells_of kf9
      clear ho9 gv9 kf9 g9 x0 x1 c0 c1 c2 c3 c4 c5 c6 c7 c8 c9 hqq KC
      go_upto_region 14 with (fail)
      rw [← hV9]
      clear hV9
      go_wp2_with fail
      refine KQ.out.mono ?_
      rintro e w10 ⟨rfl, hd10⟩
      have G10 := Lib.hid (G9.out.trans hd10.grew)
      clear hd10 z0 z1 KQ
      go_wp2
      go_ret
      exact ⟨rfl, G10.out⟩
    · have qd : ((De : Int) != 0) = true := by simp; omega
      have KS := Lib.hid (vsame_any Dm mZ (.slice a8 Dm.l.length c8') (.slice none 0 0) V8 T8.out (Sl.nil V8 1))
      rw [HDZ.out hde, same_refl3] at KS
      rw [HDZ.out hde] at c0 c1 c2 c3 c4 c5 c6 c7 c8 c9
      simp only [msgA, mZ, Int.natCast_zero] at KS c0 c1 c2 c3 c4 c5 c6 c7 c8 c9
      clear hde
      go_wp2_with fail
      refine KS.out.mono ?_
      rintro e w9 ⟨rfl, g9⟩
      go_wp2
      go_ret
      exact ⟨rfl, G8.out.trans g9⟩
end Go.Proofs.Ytbjoohafgkodcaa
