/- The laws EncodeBytes, EncodeFields return true: their walks. ; A message's numbers are of 64 bits. ; rescriptlaw10.live: contract. -/
import Derived.Test.YtgoaijpckckdnaaEn9
import Derived.Test.YtgoaijpckckdnaaOpm
import Derived.Test.YtgoaijpckckdnaaEn7
namespace Go.Proofs.Ytgoaijpckckdnaa
open Go Go.RowKit Go.Shelf
attribute [local go_sem] Oper.semAt_some

def mQ : Msg := ⟨8, fun _ => 0, fun _ => ⟨#[]⟩, []⟩
theorem mQ_ok : okE mQ := ⟨fun i _ => Nat.zero_le _, (fun s (h : s ∈ ([] : List ByteArray)) => absurd h List.not_mem_nil), Nat.zero_le _, fun i _ => by show (0 : Nat) < _; omega⟩
theorem mQ_args : msgA mQ (.slice none 0 0) = #[.int .u8 8, .int .u64 0, .int .u64 0, .int .u64 0, .int .u64 0, .int .u64 0, .int .u64 0, .string ⟨#[]⟩, .string ⟨#[]⟩, .slice none 0 0] := rfl
theorem mQ_chk2 : chkM mQ (ofKind 8 (rowsIn 2)) = (0, 0) := by decide
theorem mQ_chk1 : chkM mQ (ofKind 8 (rowsIn 1)) = (7, 0) := by decide
theorem mQ_msg2 : msgB mQ (ofKind 8 (rowsIn 2)) = [] := by decide +kernel
theorem mQ_msg1 : msgB mQ (ofKind 8 (rowsIn 1)) = [] := by decide +kernel
theorem mA_msg : msgB mA (ofKind 1 (rowsIn 1)) = [8, 1, 16, 3] := by decide +kernel
theorem mA_fld : (fieldF mA 2 1 1).length = 2 := by decide +kernel
set_option maxRecDepth 100000 in
set_option maxHeartbeats 8000000 in
theorem live10_any (w : World) : Calls Try.prog 31 #[] w fun e w' => e = .returned (.bool true) ∧ Grew w w' := by
  have KA := Lib.hid (fun W => ebytes_any mA none 0 1 W mA_ok (Sl.nil W 1))
  have KQ2 := Lib.hid (fun W => ebytes_any mQ none 0 2 W mQ_ok (Sl.nil W 1))
  have KQ1 := Lib.hid (fun W => ebytes_any mQ none 0 1 W mQ_ok (Sl.nil W 1))
  have KZ := Lib.hid (fun W => esize_any mA none 0 1 W mA_ok (Sl.nil W 1))
  have KF := Lib.hid (fun W => efield_any mA none 0 2 1 1 W mA_ok (by omega) (Sl.nil W 1))
  rw [show Value.slice none mA.l.length 0 = .slice none 0 0 from rfl, mA_args] at KA KZ KF
  rw [show Value.slice none mQ.l.length 0 = .slice none 0 0 from rfl, mQ_args] at KQ1 KQ2
  rw [show mA.k = 1 from rfl, mA_chk, mA_msg] at KA
  rw [show mA.k = 1 from rfl, mA_msg] at KZ
  rw [show mQ.k = 8 from rfl, mQ_chk2, mQ_msg2] at KQ2
  rw [show mQ.k = 8 from rfl, mQ_chk1, mQ_msg1] at KQ1
  unfold FldP at KF
  have hlen := mA_fld
  generalize fieldF mA 2 1 1 = F at KF hlen
  have HLF := Lib.hid hlen
  obtain ⟨w0, hw0⟩ : ∃ w0, w0 = w.alloc (.cells #[.int .u8 1, .int .u64 1, .int .u64 3, .int .u64 0, .int .u64 0, .int .u64 0, .int .u64 0, .string ⟨#[]⟩, .string ⟨#[]⟩, .slice none 0 0] 57) := ⟨_, rfl⟩
  have g0 : Grew w w0 := by rw [hw0]; exact grew_alloc _ _
  have k0 : Blk w0 w.heap.size 57 (msgA mA (.slice none 0 0)) := by rw [hw0]; exact Blk.new _ _ _
  have K0 := Lib.hid k0
  have G0 := Lib.hid g0
  clear g0 k0 hlen
  go_enter Try.func31, Try.ntmps31
  go_wp2_with fail
  rw [← hw0]
  refine (KA.out _).mono ?_
  clear hw0
  simp only [fltV]
  rintro e w1 ⟨v1, rfl, ho1, g1⟩
  obtain ⟨a1, c1, rfl⟩ := bs_len (Sl.of_own ho1)
  have ga := grew_alloc w1 (.cells #[.int .i64 0, .int .i64 0] 27)
  obtain ⟨wa, hwa⟩ : ∃ wa, wa = w1.alloc (.cells #[.int .i64 0, .int .i64 0] 27) := ⟨_, rfl⟩
  have ka : Blk wa w1.heap.size 27 #[.int .i64 0, .int .i64 0] := by rw [hwa]; exact Blk.new _ _ _
  rw [← hwa] at ga
  have HKA := Lib.hid ka
  have HA := Lib.hid ((G0.out.trans g1).trans ga)
  have HO1 := Lib.hid (own_grew ho1 ga)
  have HK0 := Lib.hid ((K0.out.grew g1).grew ga)
  clear g1 ga ka ho1
  go_wp2_with fail
  rw [← hwa]
  clear hwa
  refine (KQ2.out _).mono ?_
  simp only [fltV]
  rintro e w2 ⟨v2, rfl, ho2, g2⟩
  obtain ⟨a2, c2, rfl⟩ := bs_len (Sl.of_own ho2)
  obtain ⟨wb, hwb⟩ : ∃ wb, wb = w2.alloc (.cells #[.int .i64 0, .int .i64 0] 27) := ⟨_, rfl⟩
  have gb := grew_alloc w2 (.cells #[.int .i64 0, .int .i64 0] 27)
  have kb : Blk wb w2.heap.size 27 #[.int .i64 0, .int .i64 0] := by rw [hwb]; exact Blk.new _ _ _
  rw [← hwb] at gb
  have HKB := Lib.hid kb
  have HB := Lib.hid (Grew.trans g2 gb)
  clear g2 gb kb ho2
  go_wp2_with fail
  rw [← hwb]
  clear hwb
  refine (KQ1.out _).mono ?_
  simp only [fltV]
  rintro e w3 ⟨v3, rfl, ho3, g3⟩
  obtain ⟨a3, n3, c3, rfl, hn3⟩ := bs_shape (Sl.of_own ho3)
  obtain ⟨wc, hwc⟩ : ∃ wc, wc = w3.alloc (.cells #[.int .i64 7, .int .i64 0] 27) := ⟨_, rfl⟩
  have gc := grew_alloc w3 (.cells #[.int .i64 7, .int .i64 0] 27)
  have kc : Blk wc w3.heap.size 27 #[.int .i64 7, .int .i64 0] := by rw [hwc]; exact Blk.new _ _ _
  rw [← hwc] at gc
  have HBC := Lib.hid (HB.out.trans (Grew.trans g3 gc))
  have HC := Lib.hid (HA.out.trans HBC.out)
  have k1 := HKA.out.grew HBC.out
  have k2 := HKB.out.grew (Grew.trans g3 gc)
  have HK1 := Lib.hid k1
  have HK2 := Lib.hid k2
  have HK3 := Lib.hid kc
  have HO := Lib.hid (own_grew HO1.out HBC.out)
  have HKM := Lib.hid (HK0.out.grew HBC.out)
  clear g3 gc kc k1 k2 ho3 HA HB HKA HKB HO1 HK0
  go_upto_region 5 with (fail)
  rw [← hwc]
  clear hwc
  obtain ⟨x0, x1, -, -⟩ := cells_of HK1.out
  go_wp2_with fail
  refine (same_any [8, 1, 16, 3] [8, 1, 16, 3] _ _ _ ((Sl.of_own HO.out).grew (grew_alloc _ _)) (bs_lit wc _ _ 4 rfl rfl (by omega))).mono ?_
  rintro e w5 ⟨rfl, d5⟩
  have g5 := (grew_alloc wc (.cells #[.int .u8 8, .int .u8 1, .int .u8 16, .int .u8 3] 5)).trans d5.grew
  have K51 := Lib.hid (HK1.out.grew g5)
  have K52 := Lib.hid (HK2.out.grew g5)
  have K53 := Lib.hid (HK3.out.grew g5)
  have K5M := Lib.hid (HKM.out.grew g5)
  have G5 := Lib.hid (HC.out.trans g5)
  clear x0 x1 d5 g5 HK1 HK2 HK3 HKM HC HO HBC
  obtain ⟨x0, x1, -, -⟩ := cells_of K51.out
  obtain ⟨c0, c1', c2', c3', c4, c5, c6, c7, c8, c9⟩ := mcells K5M.out
  simp only [mA] at c0 c1' c2' c3' c4 c5 c6 c7 c8 c9
  go_wp2_with fail
  refine (KZ.out _).mono ?_
  rintro e w6 ⟨rfl, g6⟩
  have K61 := Lib.hid (K52.out.grew g6)
  have K62 := Lib.hid (K53.out.grew g6)
  have K6M := Lib.hid (K5M.out.grew g6)
  have G6 := Lib.hid (G5.out.trans g6)
  clear x0 x1 c0 c1' c2' c3' c4 c5 c6 c7 c8 c9 g6
  obtain ⟨x0, x1, -, -⟩ := cells_of K61.out
  obtain ⟨y0, y1, -, -⟩ := cells_of K62.out
  obtain ⟨c0, c1', c2', c3', c4, c5, c6, c7, c8, c9⟩ := mcells K6M.out
  simp only [mA] at c0 c1' c2' c3' c4 c5 c6 c7 c8 c9
  go_wp2_with fail
  refine (KF.out _).mono ?_
  rintro e w7 ⟨v7, rfl, ho7, g7⟩
  obtain ⟨a7, c7', rfl⟩ := bs_len (Sl.of_own ho7)
  rw [HLF.out]
  clear ho7
  go_wp2
  go_ret
  exact ⟨rfl, G6.out.trans g7⟩
end Go.Proofs.Ytgoaijpckckdnaa
namespace Go.Proofs.Ytgoaijpckckdnaa
open Go Go.RowKit Go.WideShapes Go.ChangeShapes Go.ChangeAt Go.Shelf
section
variable {H : Type} {enc : TypeId × Value → H}
theorem trod_u64b {W : World} {n z : Nat} {y : DataW H × List MemPlace} (h : DataW.trod enc Try.prog W 0 (fun _ => true) true n 37 [.int .u64 (z : Nat)] = some y) : z < 18446744073709551616 := by
  obtain ⟨z', e, -, wf⟩ := DataW.trod_int Try.underlying37 h
  have b := bounds_u64 wf
  simp at e
  omega
set_option maxRecDepth 100000 in
theorem open_msgN {W : World} {m : Msg} {lv : Value} {d : DataW H} {p : List MemPlace} (h : DataW.Trod enc Try.prog W 0 (fun _ => true) true 57 (.agg (msgA m lv)) d p) : ∀ i, i < 6 → m.n i < 18446744073709551616 := by
  obtain ⟨fuel, hf⟩ := h
  obtain ⟨ys, k, -, -, -, hyl, hf⟩ := DataW.trod_struct Try.underlying57 hf
  match ys, hyl with
  | [y0, y1, y2, y3], _ =>
    have h1 : DataW.trod enc Try.prog W 0 (fun _ => true) true k 53 [.int .u64 (m.n 0), .int .u64 (m.n 1), .int .u64 (m.n 2), .int .u64 (m.n 3), .int .u64 (m.n 4), .int .u64 (m.n 5)] = some y1 := hf 1 _ rfl
    obtain ⟨xs, k1, -, -, -, hxl, hx⟩ := DataW.trod_array Try.underlying53 h1
    have hce : Try.prog.cellsOf 37 = 1 := by kernel_rfl
    rw [hce] at hx
    match xs, hxl with
    | [x1, x2, x3, x4, x5, x6], _ =>
      have q0 := trod_u64b (hx 0 (by omega))
      have q1 := trod_u64b (hx 1 (by omega))
      have q2 := trod_u64b (hx 2 (by omega))
      have q3 := trod_u64b (hx 3 (by omega))
      have q4 := trod_u64b (hx 4 (by omega))
      have q5 := trod_u64b (hx 5 (by omega))
      intro i hi
      rcases (show i = 0 ∨ i = 1 ∨ i = 2 ∨ i = 3 ∨ i = 4 ∨ i = 5 by omega) with rfl | rfl | rfl | rfl | rfl | rfl <;> assumption
set_option maxRecDepth 100000 in
/-- a field's number is one of 64 bits -/
theorem open_specN {W : World} {x : Int × Int × Int} {d : DataW H} {p : List MemPlace} (h : DataW.Trod enc Try.prog W 0 (fun _ => true) true 63 (.agg #[.int .i64 x.1, .int .i64 x.2.1, .int .i64 x.2.2]) d p) : -9223372036854775808 ≤ x.1 ∧ x.1 ≤ 9223372036854775807 := by
  obtain ⟨fuel, hf⟩ := h
  obtain ⟨ys, k, -, -, -, hyl, hf⟩ := DataW.trod_struct Try.underlying63 hf
  match ys, hyl with
  | [y0, y1, y2], _ =>
    have h1 : DataW.trod enc Try.prog W 0 (fun _ => true) true k 3 [.int .i64 x.1] = some y0 := hf 0 _ rfl
    obtain ⟨z', e, -, wf⟩ := DataW.trod_int Try.underlying3 h1
    have b := bounds_i64 wf
    simp at e
    omega
end
theorem wparts_law (m : Msg) (v : Value) (ver : Int) (w : World) (hm : MsgR w v m) (hn : ∀ i, i < 6 → m.n i < 18446744073709551616) :
    Calls Try.prog 14 #[v, .int .i64 ver] w fun e w' => e = .returned (.bool true) ∧ Grew w w' := by
  obtain ⟨lv, rfl, hl, -⟩ := hm
  obtain ⟨a, c, rfl⟩ := tx_len hl
  exact wparts_walk m a c ver w hn hl
end Go.Proofs.Ytgoaijpckckdnaa
namespace Go.Proofs.Ytgoaijpckckdnaa
open Go Go.RowKit Go.Shelf
attribute [local go_sem] Oper.semAt_some

theorem small_len' {m : Msg} (h : smallB m = true) : m.l.length ≤ 70 := by
  unfold smallB at h
  simp only [Bool.and_eq_true, Bool.not_eq_true', Bool.or_eq_false_iff, decide_eq_false_iff_not] at h
  omega
set_option maxRecDepth 100000 in
set_option maxHeartbeats 8000000 in
theorem encfields_walk (m : Msg) (v : Value) (num t sl : Int) (w : World) (hm : MsgR w v m) (hn : ∀ i, i < 6 → m.n i < 18446744073709551616) (hnum : -9223372036854775808 ≤ num ∧ num ≤ 9223372036854775807) :
    Calls Try.prog 9 #[v, .agg #[.int .i64 num, .int .i64 t, .int .i64 sl]] w fun e w' => e = .returned (.bool true) ∧ Grew w w' := by
  obtain ⟨lv, rfl, hl, ho⟩ := hm
  obtain ⟨a, c, rfl⟩ := tx_len hl
  obtain ⟨W0, hW0⟩ : ∃ W0, W0 = (w.alloc (.cells (msgA m (.slice a m.l.length c)) 57)).alloc (.cells #[.int .i64 num, .int .i64 t, .int .i64 sl] 63) := ⟨_, rfl⟩
  have hg0 : Grew w W0 := by rw [hW0]; exact grew2 _ _ _
  have k2 : Blk W0 (w.heap.size + 1) 63 #[.int .i64 num, .int .i64 t, .int .i64 sl] := by rw [hW0]; exact Blk.new2 _ _ _ _
  have k1 : Blk W0 w.heap.size 57 (msgA m (.slice a m.l.length c)) := by rw [hW0]; exact (Blk.new _ _ _).alloc _
  have K1 := Lib.hid k1
  have K2 := Lib.hid k2
  have G0 := Lib.hid hg0
  have KS := Lib.hid (fun W g => small9_any m (.slice a m.l.length c) W (hl.grew (g : Grew w W)))
  have KE := Lib.hid (fun h W g => efield_any m a c num t sl W (small_ok h hn) hnum (hl.grew (g : Grew w W)))
  have KR := Lib.hid (fun h W g => r10field_any m a c num t sl W h hn (hl.grew (g : Grew w W)))
  unfold FldP at KE KR
  generalize fieldF m num t sl = F at KE KR
  simp only [msgA] at hW0 KS KE KR ⊢
  clear k1 k2 hg0 hl ho hn hnum
  go_enter Try.func9, Try.ntmps9
  go_wp2_with fail
  rw [← hW0]
  refine (live10_any _).mono ?_
  rintro e w1 ⟨rfl, g1⟩
  have K3 := Lib.hid (K1.out.grew g1)
  have K4 := Lib.hid (K2.out.grew g1)
  have G1 := Lib.hid (G0.out.trans g1)
  obtain ⟨c0, c1', c2, c3, c4, c5, c6, c7, c8, c9⟩ := mcells K3.out
  clear hW0 K1 K2 G0 g1
  go_wp2_with fail
  refine (KS.out _ G1.out).mono ?_
  rintro e w2 ⟨rfl, g2⟩
  have K5 := Lib.hid (K3.out.grew g2)
  have K6 := Lib.hid (K4.out.grew g2)
  have G2 := Lib.hid (G1.out.trans g2)
  clear c0 c1' c2 c3 c4 c5 c6 c7 c8 c9 g2 K3 K4 G1
  cases hs : smallB m with
  | false =>
    clear hs
    go_wp2
    go_ret
    exact ⟨rfl, G2.out⟩
  | true =>
    have KE1 := Lib.hid (KE.out hs)
    have KR1 := Lib.hid (KR.out hs)
    clear hs KE KR KS
    go_upto_region 5 with (fail)
    refine wp_region_held_drew (S := fun W => Grew w2 W) (by kernel_rfl) (Drew.grew ⟨1, rfl⟩) (fun hHeld => ?_)
    refine wpAnyH_take (i := 0) (oi := _) (v := ?_) rfl (by kernel_rfl) (by kernel_rfl) (by kernel_rfl) (fun _ _ _ h => h) (Or.inl ⟨by rfl, ?_⟩) (by assumption) ?_
    rotate_left
    · (intro W hSw; obtain ⟨c0, c1', c2, c3, c4, c5, c6, c7, c8, c9⟩ := mcells (K5.out.grew hSw); go_simp; try with_reducible rfl)
    simp only [Act.put, List.setIfInBounds_toArray]
    refine wpAnyH_take (i := 1) (oi := _) (v := ?_) rfl (by kernel_rfl) (by kernel_rfl) (by kernel_rfl) (fun _ _ _ h => h) (Or.inl ⟨by rfl, ?_⟩) (by assumption) ?_
    rotate_left
    · (intro W hSw; have d0 := (K6.out.grew hSw).cell 0; have d1 := (K6.out.grew hSw).cell 1; have d2 := (K6.out.grew hSw).cell 2; simp only [List.getElem?_toArray, List.getElem?_cons_zero, List.getElem?_cons_succ] at d0 d1 d2; go_simp; try with_reducible rfl)
    simp only [Act.put]
    refine wpAnyH_take (i := 3) (oi := _) (v := ?_) rfl (by kernel_rfl) (by kernel_rfl) (by kernel_rfl) (fun _ _ _ h => h) (Or.inl ⟨by rfl, ?_⟩) (by assumption) ?_
    rotate_left
    · (intro W hSw; obtain ⟨c0, c1', c2, c3, c4, c5, c6, c7, c8, c9⟩ := mcells (K5.out.grew hSw); go_simp; try with_reducible rfl)
    simp only [Act.put]
    refine wpAnyH_take (i := 4) (oi := _) (v := ?_) rfl (by kernel_rfl) (by kernel_rfl) (by kernel_rfl) (fun _ _ _ h => h) (Or.inl ⟨by rfl, ?_⟩) (by assumption) ?_
    rotate_left
    · (intro W hSw; have d0 := (K6.out.grew hSw).cell 0; have d1 := (K6.out.grew hSw).cell 1; have d2 := (K6.out.grew hSw).cell 2; simp only [List.getElem?_toArray, List.getElem?_cons_zero, List.getElem?_cons_succ] at d0 d1 d2; go_simp; try with_reducible rfl)
    simp only [Act.put]
    refine wpAnyH_ready (rs := [2]) (by kernel_rfl) (by simp) ?_
    refine AllReadyH.cons (o := _) rfl (fun K hK => ?_) AllReadyH.nil
    go_simp
    refine (KE1.out _ (G2.out.trans (Drew.grew ⟨1, rfl⟩))).mono ?_
    rintro e w3 ⟨v3, rfl, ho3, g3⟩
    obtain ⟨a3, n3, c3, rfl, hn3⟩ := bs_shape (Sl.of_own ho3)
    have G3 : RowKit.Hid (Grew w2 w3) := Lib.hid (Grew.trans (Drew.grew (⟨1, rfl⟩ : Drew w2 w2.drew)) g3)
    have HO3 := Lib.hid ho3
    clear ho3 g3 hHeld
    go_simp
    refine hK.out _ _ G3.out (fun hHeld => ?_)
    clear hK K
    (try simp only [Act.put, List.setIfInBounds_toArray, List.set_cons_zero, List.set_cons_succ])
    refine wpAnyH_ready (rs := [5]) (by kernel_rfl) (by simp) ?_
    refine AllReadyH.cons (o := _) rfl (fun K hK => ?_) AllReadyH.nil
    go_simp
    refine (KR1.out _ (G2.out.trans G3.out)).mono ?_
    rintro e w4 ⟨v4, rfl, ho4, g4⟩
    obtain ⟨a4, n4, c4, rfl, hn4⟩ := bs_shape (Sl.of_own ho4)
    have G4 : RowKit.Hid (Grew w2 w4) := Lib.hid (Grew.trans G3.out g4)
    have KQ := Lib.hid (same_any F F _ _ w4 (Sl.of_own (own_grew HO3.out g4)) (Sl.of_own ho4))
    rw [beq_self_eq_true] at KQ
    clear ho4 g4 hHeld
    go_simp
    refine hK.out _ _ G4.out (fun hHeld => ?_)
    clear hK K
    (try simp only [Act.put, List.setIfInBounds_toArray, List.set_cons_zero, List.set_cons_succ])
    refine wpAnyH_ready (rs := [6]) (by kernel_rfl) (by simp) ?_
    refine AllReadyH.cons (o := _) rfl (fun K hK => ?_) AllReadyH.nil
    go_simp
    refine KQ.out.mono ?_
    rintro e w5 ⟨rfl, d5⟩
    have G5 : RowKit.Hid (Grew w2 w5) := Lib.hid (Grew.trans G4.out d5.grew)
    clear d5 hHeld
    go_simp
    refine hK.out _ _ G5.out (fun hHeld => ?_)
    clear hK K
    (try simp only [Act.put, List.setIfInBounds_toArray, List.set_cons_zero, List.set_cons_succ])
    refine wpAnyH_take (i := 7) (oi := ⟨some 4, _, _, _, _, _⟩) (v := ?_) rfl (by kernel_rfl) (by kernel_rfl) (by kernel_rfl) (fun _ _ _ h => h) (Or.inl ⟨by rfl, ?_⟩) (by assumption) ?_
    rotate_left
    · (intro W hSw; go_simp; try with_reducible rfl)
    simp only [Act.put, List.setIfInBounds_toArray, List.set_cons_zero, List.set_cons_succ]
    refine wpAnyH_done (by kernel_rfl) ?_ _
    go_wp2
    go_ret
    exact ⟨rfl, G2.out.trans G5.out⟩
set_option maxRecDepth 100000 in
set_option maxHeartbeats 8000000 in
theorem encbytes_walk (m : Msg) (v : Value) (ver : Int) (w : World) (hm : MsgR w v m) (hn : ∀ i, i < 6 → m.n i < 18446744073709551616) :
    Calls Try.prog 8 #[v, .int .i64 ver] w fun e w' => e = .returned (.bool true) ∧ Grew w w' := by
  obtain ⟨lv, rfl, hl, ho⟩ := hm
  obtain ⟨a, c, rfl⟩ := tx_len hl
  obtain ⟨W0, hW0⟩ : ∃ W0, W0 = w.alloc (.cells (msgA m (.slice a m.l.length c)) 57) := ⟨_, rfl⟩
  have hg0 : Grew w W0 := by rw [hW0]; exact grew_alloc _ _
  have k1 : Blk W0 w.heap.size 57 (msgA m (.slice a m.l.length c)) := by rw [hW0]; exact Blk.new _ _ _
  have K1 := Lib.hid k1
  have G0 := Lib.hid hg0
  have KS := Lib.hid (fun W g => small9_any m (.slice a m.l.length c) W (hl.grew (g : Grew w W)))
  have KE := Lib.hid (fun h W g => ebytes_any m a c ver W (small_ok h hn) (hl.grew (g : Grew w W)))
  have KZ := Lib.hid (fun h W g => esize_any m a c ver W (small_ok h hn) (hl.grew (g : Grew w W)))
  have KR := Lib.hid (fun h W g => r10bytes_any m a c ver W h hn (hl.grew (g : Grew w W)))
  generalize chkM m (ofKind m.k (rowsIn ver)) = E at KE KR
  generalize msgB m (ofKind m.k (rowsIn ver)) = B at KE KR KZ
  simp only [msgA, fltV] at hW0 KS KE KR KZ ⊢
  clear k1 hg0 hl ho hn
  go_enter Try.func8, Try.ntmps8
  go_wp2_with fail
  rw [← hW0]
  refine (live10_any _).mono ?_
  rintro e w1 ⟨rfl, g1⟩
  have K3 := Lib.hid (K1.out.grew g1)
  have G1 := Lib.hid (G0.out.trans g1)
  obtain ⟨c0, c1', c2, c3, c4, c5, c6, c7, c8, c9⟩ := mcells K3.out
  clear hW0 K1 G0 g1
  go_wp2_with fail
  refine (KS.out _ G1.out).mono ?_
  rintro e w2 ⟨rfl, g2⟩
  have K5 := Lib.hid (K3.out.grew g2)
  have G2 := Lib.hid (G1.out.trans g2)
  clear c0 c1' c2 c3 c4 c5 c6 c7 c8 c9 g2 K3 G1
  cases hs : smallB m with
  | false =>
    clear hs
    go_wp2
    go_ret
    exact ⟨rfl, G2.out⟩
  | true =>
    have KE1 := Lib.hid (KE.out hs)
    have KR1 := Lib.hid (KR.out hs)
    have KZ1 := Lib.hid (KZ.out hs)
    clear hs KE KR KS KZ
    obtain ⟨c0, c1', c2, c3, c4, c5, c6, c7, c8, c9⟩ := mcells K5.out
    go_wp2_with fail
    refine (KE1.out _ G2.out).mono ?_
    rintro e w3 ⟨v3, rfl, ho3, g3⟩
    obtain ⟨a3, c3', rfl⟩ := bs_len (Sl.of_own ho3)
    obtain ⟨wa, hwa⟩ : ∃ wa, wa = w3.alloc (.cells #[.int .i64 (E.1 : Nat), .int .i64 (E.2 : Nat)] 27) := ⟨_, rfl⟩
    have ga : Grew w3 wa := by rw [hwa]; exact grew_alloc _ _
    have ka : Blk wa w3.heap.size 27 #[.int .i64 (E.1 : Nat), .int .i64 (E.2 : Nat)] := by rw [hwa]; exact Blk.new _ _ _
    have KA := Lib.hid ka
    have HO3 := Lib.hid (own_grew ho3 ga)
    have K6 := Lib.hid ((K5.out.grew g3).grew ga)
    have G3 := Lib.hid ((G2.out.trans g3).trans ga)
    clear c0 c1' c2 c3 c4 c5 c6 c7 c8 c9 ho3 g3 ga ka K5
    go_upto_region 6 with (fail)
    rw [← hwa]
    clear hwa
    obtain ⟨c0, c1', c2, c3, c4, c5, c6, c7, c8, c9⟩ := mcells K6.out
    go_wp2_with fail
    refine (KR1.out _ G3.out).mono ?_
    rintro e w4 ⟨v4, rfl, ho4, g4⟩
    obtain ⟨a4, c4', rfl⟩ := bs_len (Sl.of_own ho4)
    obtain ⟨wb, hwb⟩ : ∃ wb, wb = w4.alloc (.cells #[.int .i64 (E.1 : Nat), .int .i64 (E.2 : Nat)] 27) := ⟨_, rfl⟩
    have gb : Grew w4 wb := by rw [hwb]; exact grew_alloc _ _
    have kb : Blk wb w4.heap.size 27 #[.int .i64 (E.1 : Nat), .int .i64 (E.2 : Nat)] := by rw [hwb]; exact Blk.new _ _ _
    have KB := Lib.hid kb
    have KA2 := Lib.hid ((KA.out.grew g4).grew gb)
    have K7 := Lib.hid ((K6.out.grew g4).grew gb)
    have G4 := Lib.hid ((G3.out.trans g4).trans gb)
    have KQ := Lib.hid (same_any B B _ _ wb (Sl.of_own (own_grew (own_grew HO3.out g4) gb)) (Sl.of_own (own_grew ho4 gb)))
    rw [beq_self_eq_true] at KQ
    clear c0 c1' c2 c3 c4 c5 c6 c7 c8 c9 ho4 g4 gb kb K6 KA
    go_upto_region 7 with (fail)
    rw [← hwb]
    clear hwb
    obtain ⟨x0, x1, -, -⟩ := cells_of KA2.out
    obtain ⟨y0, y1, -, -⟩ := cells_of KB.out
    go_wp2_with fail
    refine KQ.out.mono ?_
    rintro e w5 ⟨rfl, d5⟩
    have G5 := Lib.hid (G4.out.trans d5.grew)
    have K8 := Lib.hid (K7.out.grew d5.grew)
    clear x0 x1 y0 y1 d5
    obtain ⟨c0, c1', c2, c3, c4, c5, c6, c7, c8, c9⟩ := mcells K8.out
    go_wp2_with fail
    refine (KZ1.out _ G5.out).mono ?_
    rintro e w6 ⟨rfl, g6⟩
    clear c0 c1' c2 c3 c4 c5 c6 c7 c8 c9
    go_wp2
    go_ret
    exact ⟨ret_bool (by simp), G5.out.trans g6⟩
end Go.Proofs.Ytgoaijpckckdnaa
