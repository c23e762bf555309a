/- The law ValueGrows returns true: its walk. -/
import Derived.Test.YtcjmnpcghmcodaaVaa
import Derived.Test.YtcjmnpcghmcodaaVag
namespace Go.Proofs.Ytcjmnpcghmcodaa
open Go Go.RowKit Go.Shelf

theorem okM_clean {m : Msg} (h : okM m) (l : List Row) : okM (cleanM m l) := by
  refine ⟨fun i hi => ?_, fun s hs => ?_⟩
  · simp only [cleanM]; split
    · exact h.1 i hi
    · exact Nat.zero_le _
  · simp only [cleanM] at hs
    split at hs
    · exact h.2 s hs
    · cases hs
theorem clean_len (m : Msg) (l : List Row) : (cleanM m l).l.length ≤ m.l.length := by
  simp only [cleanM]
  split
  · exact Nat.le_refl _
  · exact Nat.zero_le _
set_option maxRecDepth 100000 in
set_option maxHeartbeats 16000000 in
theorem grows_walk (m : Msg) (v : Value) (ver later : Int) (w : World) (hm : MsgR w v m) :
    Calls Try.prog 6 #[v, .int .i64 ver, .int .i64 later] w fun e w' => e = .returned (.bool true) ∧ Grew w w' := by
  obtain ⟨lv, rfl, hl, ho⟩ := hm
  obtain ⟨a, c, rfl⟩ := tx_len hl
  obtain ⟨W0, hW0⟩ : ∃ W0, W0 = w.alloc (.cells (msgA m (.slice a m.l.length c)) 27) := ⟨_, rfl⟩
  have g0 : Grew w W0 := by rw [hW0]; exact grew_alloc _ _
  have k1 : Blk W0 w.heap.size 27 (msgA m (.slice a m.l.length c)) := by rw [hW0]; exact Blk.new _ _ _
  have K1 := Lib.hid k1
  have G0 := Lib.hid g0
  have HL := Lib.hid hl
  have HO := Lib.hid ho
  have KS := Lib.hid (fun W g => small9_any m (.slice a m.l.length c) W (hl.grew (g : Grew w W)))
  have KC := Lib.hid (fun W g h => vcheck_any m (.slice a m.l.length c) ver W ho (hl.grew (g : Grew w W)) h)
  have KL := Lib.hid (fun W g h => vcheck_any m (.slice a m.l.length c) later W ho (hl.grew (g : Grew w W)) h)
  have KCL := Lib.hid (fun W g h => clean_any m (.slice a m.l.length c) ver W (hl.grew (g : Grew w W)) h)
  have HLA := Lib.hid (fun h h1 h2 => chk_later (m := m) (ver := ver) (later := later) h h1 h2)
  have KCC := Lib.hid (fun W v (hv : Tx W v (cleanM m (ofKind m.k (rowsIn ver))).l) h => vcheck_any (cleanM m (ofKind m.k (rowsIn ver))) v ver W (okM_clean ho _) hv h)
  have hkk : (cleanM m (ofKind m.k (rowsIn ver))).k = m.k := rfl
  rw [hkk, chk_clean] at KCC
  have HZ := Lib.hid (fun h => chk_zero.1 (h : (chkM m (ofKind m.k (rowsIn ver))).1 = 0))
  have HZ2 := Lib.hid (fun h => chk_zero2 (h : (chkM m (ofKind m.k (rowsIn ver))).1 = 0))
  obtain ⟨X, hX⟩ : ∃ X, X = chkM m (ofKind m.k (rowsIn ver)) := ⟨_, rfl⟩
  rw [← hX] at KC HLA KCC HZ HZ2
  generalize ofKind m.k (rowsIn ver) = L at KCL KCC HZ
  obtain ⟨X1, X2⟩ := X
  have HXX := Lib.hid hX
  simp only [msgA, fltV] at hW0 KS KC KL KCL KCC ⊢
  clear k1 g0 hl ho hX hkk
  go_enter Try.func6, Try.ntmps6
  go_wp2_with fail
  rw [← hW0]
  refine (live09_any _).mono ?_
  rintro e w1 ⟨rfl, g1⟩
  have K2 := Lib.hid (K1.out.grew g1)
  have G1 := Lib.hid (G0.out.trans g1)
  obtain ⟨c0, c1, c2, c3, c4, c5, c6, c7, c8, c9⟩ := msg_cells K2.out
  clear hW0 K1 G0 g1
  go_wp2_with fail
  refine (KS.out _ G1.out).mono ?_
  rintro e w2 ⟨rfl, g2⟩
  have K3 := Lib.hid (K2.out.grew g2)
  have G2 := Lib.hid (G1.out.trans g2)
  clear c0 c1 c2 c3 c4 c5 c6 c7 c8 c9 g2
  obtain ⟨c0, c1, c2, c3, c4, c5, c6, c7, c8, c9⟩ := msg_cells K3.out
  cases hs : smallB m with
  | false =>
    go_wp2
    go_ret
    exact ⟨rfl, G2.out⟩
  | true =>
    have hlen := small_len hs
    have hl9 : m.l.length ≤ 1000000000 := by omega
    have HL9 := Lib.hid hl9
    clear hs hlen hl9
    go_wp2_with fail
    refine (KC.out _ G2.out HL9.out).mono ?_
    rintro e w3 ⟨rfl, g3⟩
    have K4 := Lib.hid (K3.out.grew g3)
    have G3 := Lib.hid (G2.out.trans g3)
    clear c0 c1 c2 c3 c4 c5 c6 c7 c8 c9 g3
    obtain ⟨c0, c1, c2, c3, c4, c5, c6, c7, c8, c9⟩ := msg_cells K4.out
    obtain ⟨W4, hW4⟩ : ∃ W4, W4 = w3.alloc (.cells #[.int .i64 (X1 : Nat), .int .i64 (X2 : Nat)] 32) := ⟨_, rfl⟩
    have kf : Blk W4 w3.heap.size 32 #[.int .i64 (X1 : Nat), .int .i64 (X2 : Nat)] := by rw [hW4]; exact Blk.new _ _ _
    have g4 : Grew w3 W4 := by rw [hW4]; exact grew_alloc _ _
    have KFB := Lib.hid kf
    have G4 := Lib.hid g4
    clear kf g4
    by_cases h0 : X1 = 0
    · have hz := HZ.out h0
      have hz2 := HZ2.out h0
      simp only [Prod.mk.injEq] at hz2
      obtain ⟨rfl, rfl⟩ := hz2
      have HSB := Lib.hid hz.2.2
      clear hz HZ HZ2
      have hW5 : W4 = w3.alloc (.cells #[.int .i64 0, .int .i64 0] 32) := hW4
      have KF0 : RowKit.Hid (Blk W4 w3.heap.size 32 #[.int .i64 0, .int .i64 0]) := KFB
      clear hW4 KFB
      go_upto_region 6 with (fail)
      rw [← hW5]
      have f0 := KF0.out.cell 0
      have KX := Lib.hid (K4.out.grew G4.out)
      have GX := Lib.hid (G3.out.trans G4.out)
      have KSA := Lib.hid (fun W v (g : Grew w W) (h : Tx W v (cleanM m L).l) => vsame_any (cleanM m L) m v (.slice a m.l.length c) W h (HL.out.grew g))
      simp only [msgA] at KSA
      simp only [List.getElem?_toArray, List.getElem?_cons_zero] at f0
      clear c0 c1 c2 c3 c4 c5 c6 c7 c8 c9 K4 G3 G4 hW5
      obtain ⟨c0, c1, c2, c3, c4, c5, c6, c7, c8, c9⟩ := msg_cells KX.out
      by_cases hv1 : ver ≤ later
      · by_cases hv2 : later ≤ 3
        · have hla := HLA.out trivial hv1 hv2
          rw [hla] at KL
          have hfn : ∀ W : World, (binOp .neq 32 (.agg #[.int .i64 0, .int .i64 0]) (.agg #[.int .i64 0, .int .i64 0])).run Try.prog W = .ok (.bool false) W := fun W => by kernel_rfl
          clear hla HXX
          go_wp2_with fail
          refine (KL.out _ GX.out HL9.out).mono ?_
          rintro e wc ⟨rfl, g5⟩
          have K6 := Lib.hid (KX.out.grew g5)
          have G6 := Lib.hid (GX.out.trans g5)
          clear c0 c1 c2 c3 c4 c5 c6 c7 c8 c9 KX GX g5 f0 KF0
          obtain ⟨c0, c1, c2, c3, c4, c5, c6, c7, c8, c9⟩ := msg_cells K6.out
          go_upto_region 9 with (fail)
          go_region_held3 (fun W => W.cell? ⟨w.heap.size, 0, none⟩ = some (.int .u8 m.k) ∧ W.cell? ⟨w.heap.size, 1, none⟩ = some (.int .u64 (m.n 0)) ∧ W.cell? ⟨w.heap.size, 2, none⟩ = some (.int .u64 (m.n 1)) ∧ W.cell? ⟨w.heap.size, 3, none⟩ = some (.int .u64 (m.n 2)) ∧ W.cell? ⟨w.heap.size, 4, none⟩ = some (.int .u64 (m.n 3)) ∧ W.cell? ⟨w.heap.size, 5, none⟩ = some (.int .u64 (m.n 4)) ∧ W.cell? ⟨w.heap.size, 6, none⟩ = some (.int .u64 (m.n 5)) ∧ W.cell? ⟨w.heap.size, 7, none⟩ = some (.string (m.s 0)) ∧ W.cell? ⟨w.heap.size, 8, none⟩ = some (.string (m.s 1)) ∧ W.cell? ⟨w.heap.size, 9, none⟩ = some (.slice a m.l.length c)) (first | go_keep | exact j0) ((first
            | (go_at_call 18; refine (KCL.out _ (G6.out.trans (Drew.grew ⟨1, rfl⟩)) HL9.out).mono ?_; rintro e8 W8 ⟨v8, rfl, o8, g8, -⟩; have gd := Grew.trans (Drew.grew (⟨1, rfl⟩ : Drew wc wc.drew)) g8; have j0 := msg_cells (K6.out.grew gd); have t8 := Sl.of_own o8; obtain ⟨a8, n8, rfl⟩ := tx_len t8; have T8 := Lib.hid t8)
            | (go_at_call 19; refine (KSA.out _ _ ((G6.out.trans gd)) (T8.out)).mono ?_; rintro e9 W9 ⟨rfl, g9⟩; have j0 := msg_cells (K6.out.grew (gd.trans g9)))))
          have gf := G6.out.trans (gd.trans g9)
          rw [HSB.out]
          have GF := Lib.hid gf
          clear gf gd g8 g9 c0 c1 c2 c3 c4 c5 c6 c7 c8 c9 j0
          go_wp2
          go_ret
          exact ⟨rfl, GF.out⟩
        · go_upto_region 9 with (fail)
          go_region_held3 (fun W => W.cell? ⟨w.heap.size, 0, none⟩ = some (.int .u8 m.k) ∧ W.cell? ⟨w.heap.size, 1, none⟩ = some (.int .u64 (m.n 0)) ∧ W.cell? ⟨w.heap.size, 2, none⟩ = some (.int .u64 (m.n 1)) ∧ W.cell? ⟨w.heap.size, 3, none⟩ = some (.int .u64 (m.n 2)) ∧ W.cell? ⟨w.heap.size, 4, none⟩ = some (.int .u64 (m.n 3)) ∧ W.cell? ⟨w.heap.size, 5, none⟩ = some (.int .u64 (m.n 4)) ∧ W.cell? ⟨w.heap.size, 6, none⟩ = some (.int .u64 (m.n 5)) ∧ W.cell? ⟨w.heap.size, 7, none⟩ = some (.string (m.s 0)) ∧ W.cell? ⟨w.heap.size, 8, none⟩ = some (.string (m.s 1)) ∧ W.cell? ⟨w.heap.size, 9, none⟩ = some (.slice a m.l.length c)) (first | go_keep | exact j0) ((first
            | (go_at_call 18; refine (KCL.out _ (GX.out.trans (Drew.grew ⟨1, rfl⟩)) HL9.out).mono ?_; rintro e8 W8 ⟨v8, rfl, o8, g8, -⟩; have gd := Grew.trans (Drew.grew (⟨1, rfl⟩ : Drew W4 W4.drew)) g8; have j0 := msg_cells (KX.out.grew gd); have t8 := Sl.of_own o8; obtain ⟨a8, n8, rfl⟩ := tx_len t8; have T8 := Lib.hid t8)
            | (go_at_call 19; refine (KSA.out _ _ ((GX.out.trans gd)) (T8.out)).mono ?_; rintro e9 W9 ⟨rfl, g9⟩; have j0 := msg_cells (KX.out.grew (gd.trans g9)))))
          have gf := GX.out.trans (gd.trans g9)
          rw [HSB.out]
          have GF := Lib.hid gf
          clear gf gd g8 g9 c0 c1 c2 c3 c4 c5 c6 c7 c8 c9 j0
          go_wp2
          go_ret
          exact ⟨rfl, GF.out⟩
      · go_upto_region 9 with (fail)
        go_region_held3 (fun W => W.cell? ⟨w.heap.size, 0, none⟩ = some (.int .u8 m.k) ∧ W.cell? ⟨w.heap.size, 1, none⟩ = some (.int .u64 (m.n 0)) ∧ W.cell? ⟨w.heap.size, 2, none⟩ = some (.int .u64 (m.n 1)) ∧ W.cell? ⟨w.heap.size, 3, none⟩ = some (.int .u64 (m.n 2)) ∧ W.cell? ⟨w.heap.size, 4, none⟩ = some (.int .u64 (m.n 3)) ∧ W.cell? ⟨w.heap.size, 5, none⟩ = some (.int .u64 (m.n 4)) ∧ W.cell? ⟨w.heap.size, 6, none⟩ = some (.int .u64 (m.n 5)) ∧ W.cell? ⟨w.heap.size, 7, none⟩ = some (.string (m.s 0)) ∧ W.cell? ⟨w.heap.size, 8, none⟩ = some (.string (m.s 1)) ∧ W.cell? ⟨w.heap.size, 9, none⟩ = some (.slice a m.l.length c)) (first | go_keep | exact j0) ((first
          | (go_at_call 18; refine (KCL.out _ (GX.out.trans (Drew.grew ⟨1, rfl⟩)) HL9.out).mono ?_; rintro e8 W8 ⟨v8, rfl, o8, g8, -⟩; have gd := Grew.trans (Drew.grew (⟨1, rfl⟩ : Drew W4 W4.drew)) g8; have j0 := msg_cells (KX.out.grew gd); have t8 := Sl.of_own o8; obtain ⟨a8, n8, rfl⟩ := tx_len t8; have T8 := Lib.hid t8)
          | (go_at_call 19; refine (KSA.out _ _ ((GX.out.trans gd)) (T8.out)).mono ?_; rintro e9 W9 ⟨rfl, g9⟩; have j0 := msg_cells (KX.out.grew (gd.trans g9)))))
        have gf := GX.out.trans (gd.trans g9)
        rw [HSB.out]
        have GF := Lib.hid gf
        clear gf gd g8 g9 c0 c1 c2 c3 c4 c5 c6 c7 c8 c9 j0
        go_wp2
        go_ret
        exact ⟨rfl, GF.out⟩
    · have hx0 : ((X1 : Int) == 0) = false := by simp; omega
      go_upto_region 6 with (fail)
      rw [← hW4]
      have f0 := KFB.out.cell 0
      have KX := Lib.hid (K4.out.grew G4.out)
      have GX := Lib.hid (G3.out.trans G4.out)
      simp only [List.getElem?_toArray, List.getElem?_cons_zero] at f0
      clear c0 c1 c2 c3 c4 c5 c6 c7 c8 c9 K4 G3 G4 hW4 h0 HZ HZ2
      obtain ⟨c0, c1, c2, c3, c4, c5, c6, c7, c8, c9⟩ := msg_cells KX.out
      go_wp2_with fail
      refine (KCL.out _ GX.out HL9.out).mono ?_
      rintro e w5 ⟨v5, rfl, o5, g5, -⟩
      have t5 := Sl.of_own o5; obtain ⟨a5, n5, rfl⟩ := tx_len t5; have T5 := Lib.hid t5
      skip
      have KF5 := Lib.hid (KFB.out.grew g5)
      have G5 := Lib.hid (GX.out.trans g5)
      clear c0 c1 c2 c3 c4 c5 c6 c7 c8 c9 o5 t5 g5 f0 KFB KX GX
      go_wp2_with fail
      refine (KCC.out _ _ T5.out (Nat.le_trans (clean_len m L) HL9.out)).mono ?_
      rintro e w6 ⟨rfl, g6⟩
      have kf6 := KF5.out.grew g6
      have G6 := Lib.hid (G5.out.trans g6)
      clear g6
      by_cases h20 : X1 = 20
      · subst h20
        rw [if_pos rfl]
        have hfe := flt_eq (0, 0)
        have kf6 : Blk w6 w3.heap.size 32 #[.int .i64 20, .int .i64 (X2 : Nat)] := kf6
        simp only [fltV] at hfe
        have hfe : ∀ W : World, (binOp .eql 32 (.agg #[.int .i64 0, .int .i64 0]) (.agg #[.int .i64 0, .int .i64 0])).run Try.prog W = .ok (.bool true) W := hfe
        obtain ⟨W7, hW7⟩ : ∃ W7, W7 = w6.alloc (.cells #[.int .i64 0, .int .i64 0] 32) := ⟨_, rfl⟩
        have k8 : Blk W7 w6.heap.size 32 #[.int .i64 0, .int .i64 0] := by rw [hW7]; exact Blk.new _ _ _
        have k7 : Blk W7 w3.heap.size 32 #[.int .i64 20, .int .i64 (X2 : Nat)] := by rw [hW7]; exact kf6.alloc _
        have GW : RowKit.Hid (Grew w W7) := Lib.hid (by rw [hW7]; exact G6.out.trans (grew_alloc _ _))
        have y0 := k8.cell 0
        have y1 := k8.cell 1
        have f0 := k7.cell 0
        have f1 := k7.cell 1
        simp only [List.getElem?_toArray, List.getElem?_cons_zero, List.getElem?_cons_succ] at f0 f1 y0 y1
        clear k7 k8 kf6
        go_upto_region 11 with (fail)
        rw [← hW7]
        clear hW7
        go_wp2
        go_ret
        exact ⟨rfl, GW.out⟩
      · rw [if_neg h20]
        have hfe := flt_eq (X1, X2)
        simp only [fltV] at hfe
        have h20b : ((X1 : Int) == 20) = false := by simp; omega
        have h20c : ((X1 : Int) != 20) = true := by simp; omega
        clear h20
        obtain ⟨W7, hW7⟩ : ∃ W7, W7 = w6.alloc (.cells #[.int .i64 (X1 : Nat), .int .i64 (X2 : Nat)] 32) := ⟨_, rfl⟩
        have k8 : Blk W7 w6.heap.size 32 #[.int .i64 (X1 : Nat), .int .i64 (X2 : Nat)] := by rw [hW7]; exact Blk.new _ _ _
        have k7 : Blk W7 w3.heap.size 32 #[.int .i64 (X1 : Nat), .int .i64 (X2 : Nat)] := by rw [hW7]; exact kf6.alloc _
        have GW : RowKit.Hid (Grew w W7) := Lib.hid (by rw [hW7]; exact G6.out.trans (grew_alloc _ _))
        have y0 := k8.cell 0
        have y1 := k8.cell 1
        have f0 := k7.cell 0
        have f1 := k7.cell 1
        simp only [List.getElem?_toArray, List.getElem?_cons_zero, List.getElem?_cons_succ] at f0 f1 y0 y1
        clear k7 k8 kf6
        go_upto_region 11 with (fail)
        rw [← hW7]
        clear hW7
        go_wp2
        go_ret
        exact ⟨rfl, GW.out⟩
end Go.Proofs.Ytcjmnpcghmcodaa
