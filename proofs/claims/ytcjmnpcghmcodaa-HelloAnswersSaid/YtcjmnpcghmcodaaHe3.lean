/- rescriptref35.Answer, hello.Ask, hello.Accept: contracts. -/
import Derived.Test.YtcjmnpcghmcodaaHe2
namespace Go.Proofs.Ytcjmnpcghmcodaa
open Go Go.RowKit Go.Shelf

theorem ansF_1 {m : Msg} (h : m.k ≠ 1) : ansF m = 7 := by unfold ansF first4; simp [h]
theorem ansF_2 {m : Msg} (h : m.k = 1) (hx : (chkM m (ofKind m.k (rowsIn 1))).1 ≠ 0) : ansF m = (chkM m (ofKind m.k (rowsIn 1))).1 := by unfold ansF first4; simp [h] at hx ⊢; simp [hx]
theorem ansF_3 {m : Msg} (h : m.k = 1) (hx : (chkM m (ofKind m.k (rowsIn 1))).1 = 0) : ansF m = if m.n 1 < m.n 0 then 1 else if (chV (m.n 0) (m.n 1)).2 = true then 0 else 15 := by
  unfold ansF first4; simp [h] at hx ⊢; simp [hx]; split <;> rfl
set_option maxRecDepth 100000 in
set_option maxHeartbeats 1000000 in
theorem ranswer_any (m : Msg) (a : Option Addr) (c : Nat) (ss : Nat) (nm : ByteArray) (w : World) (ho : okM m) (hl : Tx w (.slice a m.l.length c) m.l) :
    Calls Try.prog 26 #[.agg (msgA m (.slice a m.l.length c)), .int .u64 ss, .string nm] w fun e w' => e = .returned (.tuple #[.agg (msgA (ansM m ss nm) (.slice none 0 0)), .int .i64 (ansV m : Nat), .int .i64 (ansF m : Nat)]) ∧ Grew w w' := by
  obtain ⟨W0, hW0⟩ : ∃ W0, W0 = (w.alloc (.cells (msgA m (.slice a m.l.length c)) 27)).alloc (.cells zMsg 27) := ⟨_, rfl⟩
  have g0 : Grew w W0 := by rw [hW0]; exact grew2 _ _ _
  have k1 : Blk W0 w.heap.size 27 (msgA m (.slice a m.l.length c)) := by rw [hW0]; exact (Blk.new _ _ _).alloc _
  have k2 : Blk W0 (w.heap.size + 1) 27 zMsg := by rw [hW0]; exact Blk.new2 _ _ _ _
  have K1 := Lib.hid k1
  have K2 := Lib.hid k2
  have G0 := Lib.hid g0
  have KC := Lib.hid (fun W g => rcheck9_any m (.slice a m.l.length c) 1 W ho (hl.grew (g : Grew w W)))
  have KH := Lib.hid (fun W => rchoose_any (m.n 0) (m.n 1) W)
  obtain ⟨c0, c1, c2, -⟩ := msg_cells k1
  have D1 := Lib.hid (ansF_1 (m := m))
  have D2 := Lib.hid (ansF_2 (m := m))
  have D3 := Lib.hid (ansF_3 (m := m))
  have DE := Lib.hid (ans_err (m := m) (ss := ss) (nm := nm))
  have DO := Lib.hid (ans_own (m := m) (ss := ss) (nm := nm))
  have DN := Lib.hid (ans_not (m := m) (ss := ss) (nm := nm))
  obtain ⟨X, hX⟩ : ∃ X, X = chkM m (ofKind m.k (rowsIn 1)) := ⟨_, rfl⟩
  obtain ⟨Y, hY⟩ : ∃ Y, Y = chV (m.n 0) (m.n 1) := ⟨_, rfl⟩
  have hy3 := chV_le (m.n 0) (m.n 1)
  obtain ⟨RM, hRM⟩ : ∃ RM, RM = msgA (ansM m ss nm) (.slice none 0 0) := ⟨_, rfl⟩
  obtain ⟨RV, hRV⟩ : ∃ RV, RV = ansV m := ⟨_, rfl⟩
  obtain ⟨RF, hRF⟩ : ∃ RF, RF = ansF m := ⟨_, rfl⟩
  rw [← hY] at hy3 KH D3 DO DN
  rw [← hX] at KC D2 D3
  rw [← hRM, ← hRV] at DE DO DN
  rw [← hRF] at D1 D2 D3 DE DO DN
  rw [← hRM, ← hRV, ← hRF]
  simp only [msgA, zMsg, fltV] at hW0 KC K1 ⊢
  clear k1 k2 g0 hl ho hX hY hRM hRV hRF
  by_cases hk : m.k = 1
  · have hk0 : ((m.k : Int) != 1) = false := by simp; omega
    have DK := Lib.hid hk
    clear hk
    go_enter Try.func26, Try.ntmps26
    go_upto_region 3 with (fail)
    rw [← hW0]
    clear hW0 c0
    refine wp_region_lit ?_
    refine wpList_load_row rfl 27 _ rfl w.heap.size rfl 27 _ (0, 0) _ K1.out Try.underlying27 rfl (by kernel_rfl) ?_
    go_wp2_with fail
    refine (KC.out _ G0.out).mono ?_
    rintro e w3 ⟨rfl, g3⟩
    have d1 := (below_ext g3) _ _ c1
    have d2 := (below_ext g3) _ _ c2
    have K3 := Lib.hid (K2.out.grew g3)
    have G3 := Lib.hid (G0.out.trans g3)
    clear K1 K2 G0 g3 c1 c2
    by_cases hx : X.1 = 0
    · have HX := Lib.hid hx
      have hx0 : ((X.1 : Int) != 0) = false := by simp; omega
      clear hx
      have D3' := Lib.hid (D3.out DK.out HX.out)
      clear D1 D2 D3
      go_upto_region 6 with (fail)
      obtain ⟨W5, hW5⟩ : ∃ W5, W5 = w3.alloc (.cells #[.int .i64 X.1, .int .i64 X.2] 32) := ⟨_, rfl⟩
      have G5 : RowKit.Hid (Grew w W5) := Lib.hid (by rw [hW5]; exact G3.out.trans (grew_alloc _ _))
      have K5 : RowKit.Hid (Blk W5 (w.heap.size + 1) 27 zMsg) := Lib.hid (by rw [hW5]; exact K3.out.alloc _)
      have y1 : W5.cell? ⟨w.heap.size, 1, none⟩ = some (.int .u64 (m.n 0)) := by rw [hW5]; exact (below_ext (grew_alloc _ _)) _ _ d1
      have y2 : W5.cell? ⟨w.heap.size, 2, none⟩ = some (.int .u64 (m.n 1)) := by rw [hW5]; exact (below_ext (grew_alloc _ _)) _ _ d2
      rw [← hW5]
      clear hW5 d1 d2 K3 G3
      by_cases hn : m.n 1 < m.n 0
      · have HF := Lib.hid (D3'.out.trans (if_pos hn))
        have HE := Lib.hid (DE.out (by rw [HF.out]; omega))
        have hn' : decide (m.n 1 < m.n 0) = true := by simpa using hn
        clear hn D3'
        go_upto_region 7 with (fail)
        refine wp_region_lit ?_
        refine wpList_build_to rfl 27 _ rfl zMsg (by kernel_rfl) ?_
        refine wpList_store_row rfl 27 _ _ rfl (w.heap.size + 1) _ rfl rfl 27 _ K5.out (by kernel_rfl) rfl (by first | kernel_rfl | exact Eq.refl true | simp [Value.oneCell', zMsg]) ?_
        go_wp2_with fail
        refine bodyPost_ret (results_ctt rfl _ _ ⟨w.heap.size + 1, 0, none⟩ _ (.int .i64 0) (.int .i64 1) (by kernel_rfl) (by kernel_rfl) (by kernel_rfl) (run_loadVar_row _ (w.heap.size + 1) 27 27 _ (0, 0) _ (Blk.row K5.out _) Try.underlying27 rfl (by kernel_rfl))) rfl ?_
        exact ⟨by rw [HE.out.1, HE.out.2, HF.out]; rfl, below_setRow G5.out (by omega) _⟩
      have hn' : decide (m.n 1 < m.n 0) = false := by simpa using hn
      have D4 := Lib.hid (D3'.out.trans (if_neg hn))
      clear hn D3'
      obtain ⟨yv, yb⟩ := Y
      simp only at hy3 D4 DO DN KH
      go_wp2_with fail
      refine (KH.out _).mono ?_
      rintro e w6 ⟨rfl, rfl⟩
      cases yb with
      | false =>
        have HF := Lib.hid (D4.out.trans (if_neg (by simp)))
        have HE := Lib.hid (DE.out (by rw [HF.out]; omega))
        clear D4
        go_upto_region 10 with (fail)
        refine wp_region_lit ?_
        refine wpList_build_to rfl 27 _ rfl zMsg (by kernel_rfl) ?_
        refine wpList_store_row rfl 27 _ _ rfl (w.heap.size + 1) _ rfl rfl 27 _ K5.out (by kernel_rfl) rfl (by first | kernel_rfl | exact Eq.refl true | simp [Value.oneCell', zMsg]) ?_
        go_wp2_with fail
        refine bodyPost_ret (results_ctt rfl _ _ ⟨w.heap.size + 1, 0, none⟩ _ (.int .i64 0) (.int .i64 15) (by kernel_rfl) (by kernel_rfl) (by kernel_rfl) (run_loadVar_row _ (w.heap.size + 1) 27 27 _ (0, 0) _ (Blk.row K5.out _) Try.underlying27 rfl (by kernel_rfl))) rfl ?_
        exact ⟨by rw [HE.out.1, HE.out.2, HF.out]; rfl, below_setRow G5.out (by omega) _⟩
      | true =>
      have HF := Lib.hid (D4.out.trans (if_pos rfl))
      clear D4 DE
      obtain ⟨Y, hYY⟩ : ∃ Y : Nat × Bool, Y = (yv, true) := ⟨_, rfl⟩
      obtain rfl : yv = Y.1 := by rw [hYY]
      clear hYY
      by_cases hA : 1 < Y.1 ∧ firstV (ownN nm) < 0
      · obtain ⟨hA1, hA2⟩ := hA
        have E := DO.out HF.out hA1 hA2
        have hy' : (2 : Int) ≤ (Y.1 : Int) := by omega
        have hy3' : (Y.1 : Int) ≤ 3 := by omega
        clear hA1 hy3
        by_cases hs : nm.size ≤ 64
        · have hs' : (nm.size : Int) ≤ 64 := by omega
          rw [show ownN nm = nm from if_pos hs] at E hA2
          have HE := Lib.hid E
          clear E
          obtain ⟨W7, hW7⟩ : ∃ W7, W7 = W5.alloc (.cells #[.int .u8 2, .int .u64 Y.1, .int .u64 ss, .int .u64 0, .int .u64 0, .int .u64 0, .int .u64 0, .string ⟨#[]⟩, .string ⟨#[]⟩, .slice none 0 0] 27) := ⟨_, rfl⟩
          have kz : Blk W7 W5.heap.size 27 #[.int .u8 2, .int .u64 Y.1, .int .u64 ss, .int .u64 0, .int .u64 0, .int .u64 0, .int .u64 0, .string ⟨#[]⟩, .string ⟨#[]⟩, .slice none 0 0] := by rw [hW7]; exact Blk.new _ _ _
          have k6 : Blk W7 (w.heap.size + 1) 27 zMsg := by rw [hW7]; exact K5.out.alloc _
          have g7 : Grew w W7 := by rw [hW7]; exact G5.out.trans (grew_alloc _ _)
          have KZ := Lib.hid kz
          have KK6 := Lib.hid k6
          have G7 := Lib.hid g7
          have KU := Lib.hid (rfirst_any (nm) (by omega) W7)
          clear kz k6 g7
          have hq : decide (firstV (nm) < 0) = true := by simpa using hA2
          clear hA2
          go_wp2_with fail
          rw [← hW7]
          clear hW7
          refine KU.out.mono ?_
          rintro e w8 ⟨rfl, rfl⟩
          have c7 := KZ.out.cell 7
          have f7 := KZ.out.frozen 7
          simp only [List.getElem?_toArray, List.getElem?_cons_zero, List.getElem?_cons_succ] at c7
          have S1 := Lib.hid (KZ.out.set 7 (.string (nm)))
          have S2 := Lib.hid (KK6.out.other ⟨W5.heap.size, 7, none⟩ (.string (nm)) (by have := K5.out.lt; simp; omega))
          have S3 := Lib.hid (grew_set (b := W5.heap.size) (j := 7) G7.out (by have := K5.out.lt; omega) (.string (nm)))
          go_upto_region 16 with (fail)
          refine wp_region_lit ?_
          refine wpList_load_row rfl 27 _ rfl W5.heap.size rfl 27 _ (0, 0) _ S1.out Try.underlying27 rfl (by kernel_rfl) ?_
          refine wpList_plain rfl (fun K hK => ?_)
          go_simp
          refine hK _ _ ?_
          refine wpList_store_row rfl 27 _ _ rfl (w.heap.size + 1) _ rfl rfl 27 _ S2.out (by kernel_rfl) rfl (by first | kernel_rfl | exact Eq.refl true | simp [Value.oneCell']) ?_
          go_wp2_with fail
          refine bodyPost_ret (results_ctt rfl _ _ ⟨w.heap.size + 1, 0, none⟩ _ (.int .i64 Y.1) (.int .i64 0) (by kernel_rfl) (by kernel_rfl) (by kernel_rfl) (run_loadVar_row _ (w.heap.size + 1) 27 27 _ (0, 0) _ (Blk.row S2.out _) Try.underlying27 rfl (by kernel_rfl))) rfl ?_
          exact ⟨by rw [HE.out.1, HE.out.2, HF.out]; rfl, below_setRow S3.out (by omega) _⟩
        · have hs' : (64 : Int) < (nm.size : Int) := by omega
          rw [show ownN nm = nm.extract 0 64 from if_neg hs] at E hA2
          have HE := Lib.hid E
          clear E
          obtain ⟨W7, hW7⟩ : ∃ W7, W7 = W5.alloc (.cells #[.int .u8 2, .int .u64 Y.1, .int .u64 ss, .int .u64 0, .int .u64 0, .int .u64 0, .int .u64 0, .string ⟨#[]⟩, .string ⟨#[]⟩, .slice none 0 0] 27) := ⟨_, rfl⟩
          have kz : Blk W7 W5.heap.size 27 #[.int .u8 2, .int .u64 Y.1, .int .u64 ss, .int .u64 0, .int .u64 0, .int .u64 0, .int .u64 0, .string ⟨#[]⟩, .string ⟨#[]⟩, .slice none 0 0] := by rw [hW7]; exact Blk.new _ _ _
          have k6 : Blk W7 (w.heap.size + 1) 27 zMsg := by rw [hW7]; exact K5.out.alloc _
          have g7 : Grew w W7 := by rw [hW7]; exact G5.out.trans (grew_alloc _ _)
          have KZ := Lib.hid kz
          have KK6 := Lib.hid k6
          have G7 := Lib.hid g7
          have KU := Lib.hid (rfirst_any (nm.extract 0 64) (by simp; omega) W7)
          clear kz k6 g7
          have hq : decide (firstV (nm.extract 0 64) < 0) = true := by simpa using hA2
          clear hA2
          go_wp2_with fail
          rw [← hW7]
          clear hW7
          refine KU.out.mono ?_
          rintro e w8 ⟨rfl, rfl⟩
          have c7 := KZ.out.cell 7
          have f7 := KZ.out.frozen 7
          simp only [List.getElem?_toArray, List.getElem?_cons_zero, List.getElem?_cons_succ] at c7
          have S1 := Lib.hid (KZ.out.set 7 (.string (nm.extract 0 64)))
          have S2 := Lib.hid (KK6.out.other ⟨W5.heap.size, 7, none⟩ (.string (nm.extract 0 64)) (by have := K5.out.lt; simp; omega))
          have S3 := Lib.hid (grew_set (b := W5.heap.size) (j := 7) G7.out (by have := K5.out.lt; omega) (.string (nm.extract 0 64)))
          go_upto_region 16 with (fail)
          refine wp_region_lit ?_
          refine wpList_load_row rfl 27 _ rfl W5.heap.size rfl 27 _ (0, 0) _ S1.out Try.underlying27 rfl (by kernel_rfl) ?_
          refine wpList_plain rfl (fun K hK => ?_)
          go_simp
          refine hK _ _ ?_
          refine wpList_store_row rfl 27 _ _ rfl (w.heap.size + 1) _ rfl rfl 27 _ S2.out (by kernel_rfl) rfl (by first | kernel_rfl | exact Eq.refl true | simp [Value.oneCell']) ?_
          go_wp2_with fail
          refine bodyPost_ret (results_ctt rfl _ _ ⟨w.heap.size + 1, 0, none⟩ _ (.int .i64 Y.1) (.int .i64 0) (by kernel_rfl) (by kernel_rfl) (by kernel_rfl) (run_loadVar_row _ (w.heap.size + 1) 27 27 _ (0, 0) _ (Blk.row S2.out _) Try.underlying27 rfl (by kernel_rfl))) rfl ?_
          exact ⟨by rw [HE.out.1, HE.out.2, HF.out]; rfl, below_setRow S3.out (by omega) _⟩
      · have E := DN.out HF.out hA
        have HE := Lib.hid E
        clear E
        by_cases hy : 1 < Y.1
        · have hy' : (2 : Int) ≤ (Y.1 : Int) := by omega
          have hy3' : (Y.1 : Int) ≤ 3 := by omega
          have hA2 : ¬ firstV (ownN nm) < 0 := fun h => hA ⟨hy, h⟩
          clear hA hy hy3
          by_cases hs : nm.size ≤ 64
          · have hs' : (nm.size : Int) ≤ 64 := by omega
            rw [show ownN nm = nm from if_pos hs] at hA2
            obtain ⟨W7, hW7⟩ : ∃ W7, W7 = W5.alloc (.cells #[.int .u8 2, .int .u64 Y.1, .int .u64 ss, .int .u64 0, .int .u64 0, .int .u64 0, .int .u64 0, .string ⟨#[]⟩, .string ⟨#[]⟩, .slice none 0 0] 27) := ⟨_, rfl⟩
            have kz : Blk W7 W5.heap.size 27 #[.int .u8 2, .int .u64 Y.1, .int .u64 ss, .int .u64 0, .int .u64 0, .int .u64 0, .int .u64 0, .string ⟨#[]⟩, .string ⟨#[]⟩, .slice none 0 0] := by rw [hW7]; exact Blk.new _ _ _
            have k6 : Blk W7 (w.heap.size + 1) 27 zMsg := by rw [hW7]; exact K5.out.alloc _
            have g7 : Grew w W7 := by rw [hW7]; exact G5.out.trans (grew_alloc _ _)
            have KZ := Lib.hid kz
            have KK6 := Lib.hid k6
            have G7 := Lib.hid g7
            have KU := Lib.hid (rfirst_any (nm) (by omega) W7)
            clear kz k6 g7
            have hq : decide (firstV (nm) < 0) = false := by simpa using hA2
            clear hA2
            go_wp2_with fail
            rw [← hW7]
            clear hW7
            refine KU.out.mono ?_
            rintro e w8 ⟨rfl, rfl⟩
            go_upto_region 16 with (fail)
            refine wp_region_lit ?_
            refine wpList_load_row rfl 27 _ rfl W5.heap.size rfl 27 _ (0, 0) _ KZ.out Try.underlying27 rfl (by kernel_rfl) ?_
            refine wpList_plain rfl (fun K hK => ?_)
            go_simp
            refine hK _ _ ?_
            refine wpList_store_row rfl 27 _ _ rfl (w.heap.size + 1) _ rfl rfl 27 _ KK6.out (by kernel_rfl) rfl (by first | kernel_rfl | exact Eq.refl true | simp [Value.oneCell']) ?_
            go_wp2_with fail
            refine bodyPost_ret (results_ctt rfl _ _ ⟨w.heap.size + 1, 0, none⟩ _ (.int .i64 Y.1) (.int .i64 0) (by kernel_rfl) (by kernel_rfl) (by kernel_rfl) (run_loadVar_row _ (w.heap.size + 1) 27 27 _ (0, 0) _ (Blk.row KK6.out _) Try.underlying27 rfl (by kernel_rfl))) rfl ?_
            exact ⟨by rw [HE.out.1, HE.out.2, HF.out]; rfl, below_setRow G7.out (by omega) _⟩
          · have hs' : (64 : Int) < (nm.size : Int) := by omega
            rw [show ownN nm = nm.extract 0 64 from if_neg hs] at hA2
            obtain ⟨W7, hW7⟩ : ∃ W7, W7 = W5.alloc (.cells #[.int .u8 2, .int .u64 Y.1, .int .u64 ss, .int .u64 0, .int .u64 0, .int .u64 0, .int .u64 0, .string ⟨#[]⟩, .string ⟨#[]⟩, .slice none 0 0] 27) := ⟨_, rfl⟩
            have kz : Blk W7 W5.heap.size 27 #[.int .u8 2, .int .u64 Y.1, .int .u64 ss, .int .u64 0, .int .u64 0, .int .u64 0, .int .u64 0, .string ⟨#[]⟩, .string ⟨#[]⟩, .slice none 0 0] := by rw [hW7]; exact Blk.new _ _ _
            have k6 : Blk W7 (w.heap.size + 1) 27 zMsg := by rw [hW7]; exact K5.out.alloc _
            have g7 : Grew w W7 := by rw [hW7]; exact G5.out.trans (grew_alloc _ _)
            have KZ := Lib.hid kz
            have KK6 := Lib.hid k6
            have G7 := Lib.hid g7
            have KU := Lib.hid (rfirst_any (nm.extract 0 64) (by simp; omega) W7)
            clear kz k6 g7
            have hq : decide (firstV (nm.extract 0 64) < 0) = false := by simpa using hA2
            clear hA2
            go_wp2_with fail
            rw [← hW7]
            clear hW7
            refine KU.out.mono ?_
            rintro e w8 ⟨rfl, rfl⟩
            go_upto_region 16 with (fail)
            refine wp_region_lit ?_
            refine wpList_load_row rfl 27 _ rfl W5.heap.size rfl 27 _ (0, 0) _ KZ.out Try.underlying27 rfl (by kernel_rfl) ?_
            refine wpList_plain rfl (fun K hK => ?_)
            go_simp
            refine hK _ _ ?_
            refine wpList_store_row rfl 27 _ _ rfl (w.heap.size + 1) _ rfl rfl 27 _ KK6.out (by kernel_rfl) rfl (by first | kernel_rfl | exact Eq.refl true | simp [Value.oneCell']) ?_
            go_wp2_with fail
            refine bodyPost_ret (results_ctt rfl _ _ ⟨w.heap.size + 1, 0, none⟩ _ (.int .i64 Y.1) (.int .i64 0) (by kernel_rfl) (by kernel_rfl) (by kernel_rfl) (run_loadVar_row _ (w.heap.size + 1) 27 27 _ (0, 0) _ (Blk.row KK6.out _) Try.underlying27 rfl (by kernel_rfl))) rfl ?_
            exact ⟨by rw [HE.out.1, HE.out.2, HF.out]; rfl, below_setRow G7.out (by omega) _⟩
        · have hy' : ¬ (2 : Int) ≤ (Y.1 : Int) := by omega
          have hy3' : (Y.1 : Int) ≤ 3 := by omega
          clear hA hy3 hy
          by_cases hs : nm.size ≤ 64
          · have hs' : (nm.size : Int) ≤ 64 := by omega
            go_upto_region 16 with (fail)
            obtain ⟨W7, hW7⟩ : ∃ W7, W7 = W5.alloc (.cells #[.int .u8 2, .int .u64 Y.1, .int .u64 ss, .int .u64 0, .int .u64 0, .int .u64 0, .int .u64 0, .string ⟨#[]⟩, .string ⟨#[]⟩, .slice none 0 0] 27) := ⟨_, rfl⟩
            have kz : Blk W7 W5.heap.size 27 #[.int .u8 2, .int .u64 Y.1, .int .u64 ss, .int .u64 0, .int .u64 0, .int .u64 0, .int .u64 0, .string ⟨#[]⟩, .string ⟨#[]⟩, .slice none 0 0] := by rw [hW7]; exact Blk.new _ _ _
            have k6 : Blk W7 (w.heap.size + 1) 27 zMsg := by rw [hW7]; exact K5.out.alloc _
            have g7 : Grew w W7 := by rw [hW7]; exact G5.out.trans (grew_alloc _ _)
            rw [← hW7]
            clear hW7
            refine wp_region_lit ?_
            refine wpList_load_row rfl 27 _ rfl W5.heap.size rfl 27 _ (0, 0) _ kz Try.underlying27 rfl (by kernel_rfl) ?_
            refine wpList_plain rfl (fun K hK => ?_)
            go_simp
            refine hK _ _ ?_
            refine wpList_store_row rfl 27 _ _ rfl (w.heap.size + 1) _ rfl rfl 27 _ k6 (by kernel_rfl) rfl (by first | kernel_rfl | exact Eq.refl true | simp [Value.oneCell']) ?_
            go_wp2_with fail
            refine bodyPost_ret (results_ctt rfl _ _ ⟨w.heap.size + 1, 0, none⟩ _ (.int .i64 Y.1) (.int .i64 0) (by kernel_rfl) (by kernel_rfl) (by kernel_rfl) (run_loadVar_row _ (w.heap.size + 1) 27 27 _ (0, 0) _ (Blk.row k6 _) Try.underlying27 rfl (by kernel_rfl))) rfl ?_
            exact ⟨by rw [HE.out.1, HE.out.2, HF.out]; rfl, below_setRow g7 (by omega) _⟩
          · have hs' : (64 : Int) < (nm.size : Int) := by omega
            go_upto_region 16 with (fail)
            obtain ⟨W7, hW7⟩ : ∃ W7, W7 = W5.alloc (.cells #[.int .u8 2, .int .u64 Y.1, .int .u64 ss, .int .u64 0, .int .u64 0, .int .u64 0, .int .u64 0, .string ⟨#[]⟩, .string ⟨#[]⟩, .slice none 0 0] 27) := ⟨_, rfl⟩
            have kz : Blk W7 W5.heap.size 27 #[.int .u8 2, .int .u64 Y.1, .int .u64 ss, .int .u64 0, .int .u64 0, .int .u64 0, .int .u64 0, .string ⟨#[]⟩, .string ⟨#[]⟩, .slice none 0 0] := by rw [hW7]; exact Blk.new _ _ _
            have k6 : Blk W7 (w.heap.size + 1) 27 zMsg := by rw [hW7]; exact K5.out.alloc _
            have g7 : Grew w W7 := by rw [hW7]; exact G5.out.trans (grew_alloc _ _)
            rw [← hW7]
            clear hW7
            refine wp_region_lit ?_
            refine wpList_load_row rfl 27 _ rfl W5.heap.size rfl 27 _ (0, 0) _ kz Try.underlying27 rfl (by kernel_rfl) ?_
            refine wpList_plain rfl (fun K hK => ?_)
            go_simp
            refine hK _ _ ?_
            refine wpList_store_row rfl 27 _ _ rfl (w.heap.size + 1) _ rfl rfl 27 _ k6 (by kernel_rfl) rfl (by first | kernel_rfl | exact Eq.refl true | simp [Value.oneCell']) ?_
            go_wp2_with fail
            refine bodyPost_ret (results_ctt rfl _ _ ⟨w.heap.size + 1, 0, none⟩ _ (.int .i64 Y.1) (.int .i64 0) (by kernel_rfl) (by kernel_rfl) (by kernel_rfl) (run_loadVar_row _ (w.heap.size + 1) 27 27 _ (0, 0) _ (Blk.row k6 _) Try.underlying27 rfl (by kernel_rfl))) rfl ?_
            exact ⟨by rw [HE.out.1, HE.out.2, HF.out]; rfl, below_setRow g7 (by omega) _⟩
    · have HF := Lib.hid (D2.out DK.out hx)
      have HE := Lib.hid (DE.out (by rw [HF.out]; exact hx))
      have hx1 : ((X.1 : Int) != 0) = true := by simp; omega
      clear hx
      go_upto_region 5 with (fail)
      obtain ⟨W5, hW5⟩ : ∃ W5, W5 = w3.alloc (.cells #[.int .i64 X.1, .int .i64 X.2] 32) := ⟨_, rfl⟩
      have kb : Blk W5 w3.heap.size 32 #[.int .i64 X.1, .int .i64 X.2] := by rw [hW5]; exact Blk.new _ _ _
      have G5 : RowKit.Hid (Grew w W5) := Lib.hid (by rw [hW5]; exact G3.out.trans (grew_alloc _ _))
      have K5 : RowKit.Hid (Blk W5 (w.heap.size + 1) 27 zMsg) := Lib.hid (by rw [hW5]; exact K3.out.alloc _)
      rw [← hW5]
      clear hW5
      have c0 := kb.cell 0
      simp only [List.getElem?_toArray, List.getElem?_cons_zero] at c0
      have hnb : w3.heap.size ≠ w.heap.size + 1 := by have := K3.out.lt; omega
      have cR : ∀ n, ((W5.drew.setRow (w.heap.size + 1) zMsg).drewN n).cell? ⟨w3.heap.size, 0, none⟩ = some (.int .i64 X.1) := fun n => by
        rw [World.cell?_drewN, cell_setRow_other _ _ _ _ hnb]; exact c0
      refine wp_region_held_drew (S := fun W => W.cell? ⟨w3.heap.size, 0, none⟩ = some (.int .i64 X.1)) (by kernel_rfl) c0 (fun hHeld => ?_)
      refine wpAnyH_take (i := 0) (oi := ⟨some 23, _, _, _, _, _⟩) (v := ?_) rfl (by kernel_rfl) (by kernel_rfl) (by kernel_rfl) (fun _ _ _ h => h) (Or.inl ⟨by rfl, ?_⟩) (by assumption) ?_
      rotate_left
      · (intro w hSw; go_simp; try with_reducible rfl)
      simp only [Act.put, List.setIfInBounds_toArray, List.set_cons_zero, List.set_cons_succ]
      refine wpAnyH_take (i := 1) (oi := ⟨some 24, _, _, _, _, _⟩) (v := ?_) rfl (by kernel_rfl) (by kernel_rfl) (by kernel_rfl) (fun _ _ _ h => h) (Or.inl ⟨by rfl, ?_⟩) (by assumption) ?_
      rotate_left
      · (intro w hSw; go_simp; try with_reducible rfl)
      simp only [Act.put, List.setIfInBounds_toArray, List.set_cons_zero, List.set_cons_succ]
      refine wpAnyH_take (i := 2) (oi := ⟨some 25, _, _, _, _, _⟩) (v := ?_) rfl (by kernel_rfl) (by kernel_rfl) (by kernel_rfl) (fun _ _ _ h => h) (Or.inl ⟨by rfl, ?_⟩) (by assumption) ?_
      rotate_left
      · (intro w hSw; go_simp; try with_reducible rfl)
      simp only [Act.put, List.setIfInBounds_toArray, List.set_cons_zero, List.set_cons_succ]
      refine wpAnyH_ready (rs := [3]) (by kernel_rfl) (by simp) ?_
      refine AllReadyH.cons (o := _) rfl (fun K hK => ?_) AllReadyH.nil
      refine wp_store_row 27 _ _ rfl (w.heap.size + 1) zMsg rfl rfl 27 _ K5.out.drew (by kernel_rfl) rfl (by first | kernel_rfl | exact Eq.refl true | simp [Value.oneCell', zMsg]) ?_
      refine hK.out _ _ (by simpa using cR 0) (fun _ => ?_)
      clear hK K
      (try simp only [Act.put, List.setIfInBounds_toArray])
      refine wpAnyH_tail 4 rfl (by kernel_rfl) (by kernel_rfl) cR ?_
      simp only [List.drop_succ_cons, List.drop_zero]
      repeat (
        refine BigFrame.wpQuiet_want (by kernel_rfl) (fun K hK => ?_)
        (apply Exists.intro
         apply And.intro
         · rintro W ⟨n, rfl⟩
           go_simp
           first
             | done
             | with_reducible rfl
             | exact ⟨rfl, n, rfl⟩
             | exact ⟨n, rfl⟩
         refine hK _ ?_)
        clear hK K
        (try simp only [Act.put]))
      refine wpQuiet_nil ?_
      rintro _ ⟨nq, rfl⟩
      have K6 := Lib.hid ((K5.out.drew.row zMsg).drewN nq)
      have G6 := Lib.hid ((below_setRow (G5.out.trans (Drew.grew ⟨1, rfl⟩)) (show w.heap.size ≤ w.heap.size + 1 by omega) zMsg).trans (Below.mono (Drew.grew ⟨nq, rfl⟩) (by simp; have := G5.out.size; omega)))
      clear cR c0 hnb kb hHeld
      go_wp2
      refine bodyPost_ret (results_ctt rfl _ _ ⟨w.heap.size + 1, 0, none⟩ _ (.int .i64 0) (.int .i64 X.1) (by kernel_rfl) (by kernel_rfl) (by kernel_rfl) (run_loadVar_row _ (w.heap.size + 1) 27 27 _ (0, 0) _ K6.out Try.underlying27 rfl (by kernel_rfl))) rfl ?_
      exact ⟨by rw [HE.out.1, HE.out.2, HF.out]; rfl, G6.out⟩
  · have HF := Lib.hid (D1.out hk)
    have HE := Lib.hid (DE.out (by rw [HF.out]; omega))
    have hk1 : ((m.k : Int) != 1) = true := by simp; omega
    go_enter Try.func26, Try.ntmps26
    go_upto_region 2 with (fail)
    rw [← hW0]
    clear hW0
    refine wp_region_lit ?_
    refine wpList_build_to rfl 27 _ rfl zMsg (by kernel_rfl) ?_
    refine wpList_store_row rfl 27 _ _ rfl (w.heap.size + 1) _ rfl rfl 27 _ K2.out (by kernel_rfl) rfl (by first | kernel_rfl | exact Eq.refl true | simp [Value.oneCell', zMsg]) ?_
    go_wp2_with fail
    refine bodyPost_ret (results_ctt rfl _ _ ⟨w.heap.size + 1, 0, none⟩ _ (.int .i64 0) (.int .i64 7) (by kernel_rfl) (by kernel_rfl) (by kernel_rfl) (run_loadVar_row _ (w.heap.size + 1) 27 27 _ (0, 0) _ (Blk.row K2.out _) Try.underlying27 rfl (by kernel_rfl))) rfl ?_
    exact ⟨by rw [HE.out.1, HE.out.2, HF.out]; rfl, below_setRow G0.out (by omega) _⟩
end Go.Proofs.Ytcjmnpcghmcodaa
