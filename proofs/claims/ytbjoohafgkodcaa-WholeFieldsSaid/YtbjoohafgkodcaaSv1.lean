/- WholeVersions: the walk. -/
import Derived.Test.YtbjoohafgkodcaaSs6
import Derived.Test.YtbjoohafgkodcaaSr2
import Derived.Test.YtbjoohafgkodcaaHld
namespace Go.Proofs.Ytbjoohafgkodcaa
open Go Go.RowKit Go.Shelf
attribute [local go_sem] Oper.semAt_some

theorem am_d : (decM 1 2 [8, 1, 16, 3]).2 = (0, 0) := by decide +kernel
theorem am_m : (decM 1 2 [8, 1, 16, 3]).1.n 1 = 3 := by decide +kernel
theorem am_s : (strM 1 3 ([8, 1, 16, 3] ++ [8, 1])).2.1 = 3 := by decide +kernel
set_option maxRecDepth 100000 in
set_option maxHeartbeats 4000000 in
theorem awakeMsg_any (w : World) : Calls Try.prog 30 #[] w fun e w' => e = .returned (.bool true) ∧ Grew w w' := by
  have KB := Lib.hid (fun W => ebytes_any mA none 0 1 W mA_ok (Sl.nil W 1))
  rw [show Value.slice none mA.l.length 0 = .slice none 0 0 from rfl] at KB
  rw [mA_args, show mA.k = 1 from rfl, mA_chk, mA_msg] at KB
  have KD := Lib.hid (fun W v hb => ldecode_any 1 2 [8, 1, 16, 3] v W hb (by decide))
  have KX := Lib.hid (fun W v hb => sdecode_any 1 3 ([8, 1, 16, 3] ++ [8, 1]) v W hb (by decide))
  have e1 := am_d
  have e2 := am_m
  have e3 := am_s
  unfold DecP at KD
  unfold StrP at KX
  generalize decM 1 2 [8, 1, 16, 3] = D at KD e1 e2
  generalize strM 1 3 ([8, 1, 16, 3] ++ [8, 1]) = S at KX e3
  obtain ⟨Dm, Df⟩ := D
  obtain ⟨Sm, Se, Sa⟩ := S
  simp only at e1 e3 e2
  subst e1 e3
  have E2 := Lib.hid e2
  obtain ⟨B, hB⟩ : ∃ B : List UInt8, B = [8, 1, 16, 3] := ⟨_, rfl⟩
  have HLB := Lib.hid (show B.length = 4 by rw [hB]; rfl)
  rw [← hB] at KB KD KX
  simp only [fltI, fltV, msgA, Int.natCast_zero] at KB KD KX
  clear e2 hB
  go_enter Try.func30, Try.ntmps30
  go_wp2_with fail
  refine (KB.out _).mono ?_
  rintro e w1 ⟨v1, rfl, ho1, g1⟩
  obtain ⟨a1, n1, c1, rfl, hn1⟩ := bs_shape (Sl.of_own ho1)
  have hn4 : n1 = 4 := hn1.out.trans HLB.out
  subst hn4
  obtain ⟨V1, hV1⟩ : ∃ V, V = w1.alloc (.cells #[.int .i64 0, .int .i64 0] 32) := ⟨_, rfl⟩
  have gv : Grew w1 V1 := by rw [hV1]; exact grew_alloc _ _
  have KF1 := Lib.hid (show Blk V1 w1.heap.size 32 #[.int .i64 0, .int .i64 0] by rw [hV1]; exact Blk.new _ _ _)
  have HO1 := Lib.hid (own_grew ho1 gv)
  have G1 := Lib.hid (g1.trans gv)
  clear gv ho1 g1 hn1 KB
  go_upto_region 2 with (fail)
  rw [← hV1]
  clear hV1
  go_wp2_with fail
  refine (KD.out V1 _ (Sl.of_own HO1.out)).mono ?_
  rintro e w2 ⟨lv2, rfl, ho2, g2⟩
  obtain ⟨a2, c2', rfl⟩ := tx_len (Sl.of_own ho2)
  obtain ⟨V2, hV2⟩ : ∃ V, V = (w2.alloc (.cells (msgA Dm (.slice a2 Dm.l.length c2')) 29)).alloc (.cells #[.int .i64 0, .int .i64 0] 32) := ⟨_, rfl⟩
  have gv : Grew w2 V2 := by rw [hV2]; exact grew22 _ _ _
  have KM2 := Lib.hid (show Blk V2 w2.heap.size 29 (msgA Dm (.slice a2 Dm.l.length c2')) by rw [hV2]; exact (Blk.new _ _ _).alloc _)
  have KF2 := Lib.hid (show Blk V2 (w2.heap.size + 1) 32 #[.int .i64 0, .int .i64 0] by rw [hV2]; exact Blk.at (by simp))
  have M2 := Lib.hid (g2.trans gv)
  have gA := grew_alloc V2 (.cells #[.int .u8 8, .int .u8 1] 5)
  have HO2 := Lib.hid (own_grew HO1.out (M2.out.trans gA))
  have HBL := Lib.hid (bs_lit V2 [8, 1] #[.int .u8 8, .int .u8 1] 2 rfl rfl (by omega))
  have GA := Lib.hid gA
  have G2 := Lib.hid ((G1.out.trans M2.out).trans gA)
  simp only [msgA] at hV2
  clear gv ho2 g2 gA
  go_upto_region 3 with (fail)
  rw [← hV2]
  clear hV2
  go_wp2_with (at_builtin; refine wpList_push2 rfl _ _ rfl w.heap.size (.slice a1 4 c1) B rfl HO2.out _ rfl [8, 1] HBL.out (by rw [HLB.out]; decide) (by have := G2.out.size; exact this) ?_; intro v3 w3 hown3 hB3 hgb3 _; obtain ⟨a3, n3, c3', rfl, hn3⟩ := bs_shape (Sl.of_own hown3))
  have KA3 := Lib.hid (((KF1.out.grew M2.out).grew GA.out).kept hgb3 (blk_ne_row ((KF1.out.grew M2.out).grew GA.out) HO2.out (by decide)))
  have KB3 := Lib.hid ((KM2.out.grew GA.out).kept hgb3 (blk_ne_row (KM2.out.grew GA.out) HO2.out (by decide)))
  have KC3 := Lib.hid ((KF2.out.grew GA.out).kept hgb3 (blk_ne_row (KF2.out.grew GA.out) HO2.out (by decide)))
  have G3 := Lib.hid (show Grew w w3 from Below.trans G2.out hB3)
  refine (KX.out _ _ (Sl.of_own hown3)).mono ?_
  rintro e w4 ⟨lv4, rfl, ho4, g4⟩
  obtain ⟨a4, c4', rfl⟩ := tx_len (Sl.of_own ho4)
  obtain ⟨V4, hV4⟩ : ∃ V, V = (w4.alloc (.cells (msgA Sm (.slice a4 Sm.l.length c4')) 29)).alloc (.cells #[.int .i64 (3 : Nat), .int .i64 Sa] 32) := ⟨_, rfl⟩
  have gv : Grew w4 V4 := by rw [hV4]; exact grew22 _ _ _
  have kf4 : Blk V4 (w4.heap.size + 1) 32 #[.int .i64 (3 : Nat), .int .i64 Sa] := by rw [hV4]; exact Blk.at (by simp)
  have M4 := Lib.hid (g4.trans gv)
  obtain ⟨x0, x1, -, -⟩ := cells_of (KA3.out.grew M4.out)
  obtain ⟨-, -, n1, -, -, -, -, -, -, -⟩ := mcells (KB3.out.grew M4.out)
  obtain ⟨y0, y1, -, -⟩ := cells_of (KC3.out.grew M4.out)
  obtain ⟨z0, z1, -, -⟩ := cells_of kf4
  rw [E2.out] at n1
  have G4 := Lib.hid (Grew.trans G3.out M4.out)
  have q3 : ((3 : Nat) : Int) = 3 := rfl
  simp only [msgA, q3] at hV4 z0 n1
  clear q3 gv kf4 ho4 g4 hown3 hB3 hgb3 hn3 KX KD HO1 HO2 HBL GA
  go_upto_region 4 with (fail)
  rw [← hV4]
  clear hV4
  go_wp2
  go_ret
  exact ⟨rfl, G4.out⟩
set_option maxRecDepth 100000 in
set_option maxHeartbeats 8000000 in
theorem wvers_walk (m : Msg) (v : Value) (ver other : Int) (w : World) (hm : MsgR w v m) (hn : ∀ i, i < 6 → m.n i < 18446744073709551616) :
    Calls Try.prog 9 #[v, .int .i64 ver, .int .i64 other] w fun e w' => e = .returned (.bool true) ∧ Grew w w' := by
  obtain ⟨lv, rfl, hl, -⟩ := hm
  obtain ⟨a, c, rfl⟩ := tx_len hl
  obtain ⟨W0, hW0⟩ : ∃ W0, W0 = w.alloc (.cells (msgA m (.slice a m.l.length c)) 29) := ⟨_, rfl⟩
  have g0 : Grew w W0 := by rw [hW0]; exact grew_alloc _ _
  have K0 := Lib.hid (show Blk W0 w.heap.size 29 (msgA m (.slice a m.l.length c)) by rw [hW0]; exact Blk.new _ _ _)
  have G0 := Lib.hid g0
  have HL := Lib.hid hl
  have HN := Lib.hid hn
  simp only [msgA] at hW0 ⊢
  clear g0 hl hn
  go_enter Try.func9, Try.ntmps9
  go_upto_region 1 with (fail)
  rw [← hW0]
  clear hW0
  go_wp2_with fail
  refine (awakeMsg_any _).mono ?_
  rintro e w1 ⟨rfl, g1⟩
  have G1 := Lib.hid (G0.out.trans g1)
  have D1 := Lib.hid g1
  have KSM := Lib.hid (small9_any m _ w1 (HL.out.grew G1.out))
  obtain ⟨c0, c1, c2, c3, c4, c5, c6, c7, c8, c9⟩ := mcells (K0.out.grew g1)
  simp only [msgA] at KSM
  clear g1
  go_wp2_with fail
  refine KSM.out.mono ?_
  rintro e w2 ⟨rfl, g2⟩
  have G2 := Lib.hid (G1.out.trans g2)
  have D2 := Lib.hid (D1.out.trans g2)
  clear g2 c0 c1 c2 c3 c4 c5 c6 c7 c8 c9 KSM
  cases hs : smallB m with
  | false =>
    clear hs
    go_wp2
    go_ret
    exact ⟨rfl, G2.out⟩
  | true =>
  have HE := Lib.hid (small_ok hs HN.out)
  have HSL := Lib.hid (small_len' hs)
  clear hs
  by_cases ho1 : other < 1
  · go_wp2
    go_ret
    exact ⟨rfl, G2.out⟩
  by_cases ho3 : 3 < other
  · go_wp2
    go_ret
    exact ⟨rfl, G2.out⟩
  have KE := Lib.hid (fun W (g : Grew w W) => ebytes_any m a c ver W HE.out (HL.out.grew g))
  have HVL := Lib.hid (fun h1 h2 => vers_law (m := m) (ver := ver) (other := other) h1 HN.out ⟨by omega, by omega⟩ h2)
  have HLEN := Lib.hid (fun h => (small_msg (m := m) (ver := ver) h HN.out).2.1)
  have HMB := Lib.hid (show (chkM m (ofKind m.k (rowsIn ver))).1 ≠ 0 → msgB m (ofKind m.k (rowsIn ver)) = [] from fun h => by unfold msgB; rw [if_pos h])
  have KOF := Lib.hid (fun W => rof_any m.k other W)
  have KCL := Lib.hid (fun W (g : Grew w W) => clean_any m (.slice a m.l.length c) other W (HL.out.grew g) (by have := HSL.out; omega))
  obtain ⟨E, hE⟩ : ∃ E, E = chkM m (ofKind m.k (rowsIn ver)) := ⟨_, rfl⟩
  obtain ⟨B, hB⟩ : ∃ B, B = msgB m (ofKind m.k (rowsIn ver)) := ⟨_, rfl⟩
  obtain ⟨L, hL⟩ : ∃ L, L = ofKind m.k (rowsIn other) := ⟨_, rfl⟩
  rw [← hE, ← hB] at KE HMB
  rw [← hE, ← hB] at HLEN
  rw [← hE, ← hB, ← hL] at HVL
  rw [← hL] at KOF KCL
  obtain ⟨C, hC⟩ : ∃ C, C = cleanM m L := ⟨_, rfl⟩
  rw [← hC] at KCL HVL
  have HD7 := Lib.hid (show L = [] → decM m.k other B = (mZ, 7, 0) from fun h => by unfold decM; rw [← hL, if_pos h])
  simp only [msgA, fltV] at KE KCL
  clear hE hB hL hC
  obtain ⟨c0, c1, c2, c3, c4, c5, c6, c7, c8, c9⟩ := mcells (K0.out.grew D2.out)
  go_wp2_with fail
  refine (KE.out _ G2.out).mono ?_
  rintro e w3 ⟨v3, rfl, ho3', g3⟩
  obtain ⟨a3, c3', rfl⟩ := bs_len (Sl.of_own ho3')
  obtain ⟨V3, hV3⟩ : ∃ V, V = w3.alloc (.cells #[.int .i64 (E.1 : Nat), .int .i64 (E.2 : Nat)] 32) := ⟨_, rfl⟩
  have gv : Grew w3 V3 := by rw [hV3]; exact grew_alloc _ _
  have kf3 : Blk V3 w3.heap.size 32 #[.int .i64 (E.1 : Nat), .int .i64 (E.2 : Nat)] := by rw [hV3]; exact Blk.new _ _ _
  have HO3 := Lib.hid (own_grew ho3' gv)
  have D3 := Lib.hid (D2.out.trans (g3.trans gv))
  have G3 := Lib.hid (G2.out.trans (g3.trans gv))
  obtain ⟨x0, x1, -, -⟩ := cells_of kf3
  clear g3 gv ho3' c0 c1 c2 c3 c4 c5 c6 c7 c8 c9 KE kf3
  go_upto_region 6 with (fail)
  rw [← hV3]
  clear hV3
  by_cases he : E.1 = 0
  case neg =>
    have qe : ((E.1 : Int) != 0) = true := by simp; omega
    have hb0 := HMB.out he
    subst hb0
    go_wp2
    go_ret
    exact ⟨rfl, G3.out⟩
  have qe : ((E.1 : Int) != 0) = false := by simp; omega
  have hlen := HLEN.out he
  have HV := Lib.hid (fun h => HVL.out he h)
  have KD := Lib.hid (fun W v (hb : Bs W v B) => ldecode_any m.k other B v W hb (by omega))
  have KX := Lib.hid (fun W v (hb : Bs W v B) => sdecode_any m.k other B v W hb (by omega))
  have KU := Lib.hid (fun W v (hb : Bs W v B) => lunknown_any m.k other B v W hb (by omega))
  unfold DecP at KD
  unfold StrP at KX
  unfold UnkP at KU
  obtain ⟨D, hD⟩ : ∃ D, D = decM m.k other B := ⟨_, rfl⟩
  obtain ⟨S, hS⟩ : ∃ S, S = strM m.k other B := ⟨_, rfl⟩
  obtain ⟨U, hU⟩ : ∃ U, U = unkM m.k other B := ⟨_, rfl⟩
  rw [← hD] at KD HD7
  rw [← hD, ← hS, ← hU] at HV
  rw [← hS] at KX
  rw [← hU] at KU
  obtain ⟨Dm, De, Da⟩ := D
  obtain ⟨Sm, Se, Sa⟩ := S
  obtain ⟨Ul, Ue, Ua⟩ := U
  simp only [msgA, fltI] at KD KX KU
  clear hD hS hU he hlen HVL HLEN HMB
  obtain ⟨c0, c1, c2, c3, c4, c5, c6, c7, c8, c9⟩ := mcells (K0.out.grew D3.out)
  go_wp2_with fail
  refine (KD.out V3 _ (Sl.of_own HO3.out)).mono ?_
  rintro e w8 ⟨lv8, rfl, ho8, g8⟩
  obtain ⟨a8, c8', rfl⟩ := tx_len (Sl.of_own ho8)
  obtain ⟨V8, hV8⟩ : ∃ V, V = (w8.alloc (.cells (msgA Dm (.slice a8 Dm.l.length c8')) 29)).alloc (.cells #[.int .i64 (De : Nat), .int .i64 Da] 32) := ⟨_, rfl⟩
  have gv : Grew w8 V8 := by rw [hV8]; exact grew22 _ _ _
  have KM8 := Lib.hid (show Blk V8 w8.heap.size 29 (msgA Dm (.slice a8 Dm.l.length c8')) by rw [hV8]; exact (Blk.new _ _ _).alloc _)
  have KF8 := Lib.hid (show Blk V8 (w8.heap.size + 1) 32 #[.int .i64 (De : Nat), .int .i64 Da] by rw [hV8]; exact Blk.at (by simp))
  have T8 := Lib.hid (Sl.of_own (own_grew ho8 gv))
  have M8 := Lib.hid (g8.trans gv)
  have D8 := Lib.hid (D3.out.trans M8.out)
  have G8 := Lib.hid (G3.out.trans M8.out)
  simp only [msgA] at hV8
  clear ho8 g8 gv x0 x1 c0 c1 c2 c3 c4 c5 c6 c7 c8 c9 qe
  go_upto_region 9 with (fail)
  rw [← hV8]
  clear hV8
  obtain ⟨c0, c1, c2, c3, c4, c5, c6, c7, c8, c9⟩ := mcells (K0.out.grew D8.out)
  go_wp2_with fail
  refine (KOF.out V8).mono ?_
  rintro e w10 ⟨v10, rfl, ho10, g10⟩
  obtain ⟨a10, c10, rfl, -⟩ := (Sl.of_own ho10).open
  have M10 := Lib.hid g10
  have D10 := Lib.hid (D8.out.trans g10)
  have G10 := Lib.hid (G8.out.trans g10)
  clear ho10 g10 c0 c1 c2 c3 c4 c5 c6 c7 c8 c9 KOF
  by_cases hne : L = []
  · have h7 := HD7.out hne
    simp only [Prod.mk.injEq] at h7
    obtain ⟨rfl, rfl, rfl⟩ := h7
    subst hne
    obtain ⟨x0, x1, -, -⟩ := cells_of (KF8.out.grew M10.out)
    clear HD7 HV
    go_wp2
    go_ret
    exact ⟨rfl, G10.out⟩
  have hLl : 0 < L.length := List.length_pos_iff.2 hne
  have qL : ((L.length : Int) == 0) = false := by rw [beq_eq_false_iff_ne]; omega
  obtain ⟨hd0, hd1, hle, hun, hs3⟩ := HV.out hne
  have hd0 : De = 0 := hd0
  subst hd0
  have KSC := Lib.hid (fun W v (g : Grew V8 W) (h : Tx W v C.l) => vsame_any Dm C (.slice a8 Dm.l.length c8') v W (T8.out.grew g) h)
  rw [show sameB Dm C = true from hd1] at KSC
  simp only [msgA] at KSC
  have HLE := Lib.hid hle
  have HUN := Lib.hid hun
  have HS3 := Lib.hid hs3
  clear hne hLl hd1 hle hun hs3 HD7 HV
  go_upto_region 11 with (fail)
  refine wp_region_held_drew (S := fun V => Grew w10 V) (by kernel_rfl) (Drew.grew ⟨1, rfl⟩) (fun hHeld => ?_)
  refine wpAnyH_take (i := 0) (oi := _) (v := ?_) rfl (by kernel_rfl) (by kernel_rfl) (by kernel_rfl) (fun _ _ _ h => h) (Or.inl ⟨by rfl, ?_⟩) (by assumption) ?_
  rotate_left
  · (intro W hW; go_simp; try with_reducible rfl)
  (try simp only [Act.put, List.setIfInBounds_toArray])
  refine wpAnyH_take (i := 1) (oi := _) (v := ?_) rfl (by kernel_rfl) (by kernel_rfl) (by kernel_rfl) (fun _ _ _ h => h) (Or.inl ⟨by rfl, ?_⟩) (by assumption) ?_
  rotate_left
  · (intro W hW; obtain ⟨z0, z1, -, -⟩ := cells_of (KF8.out.grew (M10.out.trans hW)); go_simp; try with_reducible rfl)
  (try simp only [Act.put])
  refine wpAnyH_take (i := 2) (oi := _) (v := ?_) rfl (by kernel_rfl) (by kernel_rfl) (by kernel_rfl) (fun _ _ _ h => h) (Or.inl ⟨by rfl, ?_⟩) (by assumption) ?_
  rotate_left
  · (intro W hW; go_simp; try with_reducible rfl)
  (try simp only [Act.put])
  refine wpAnyH_take (i := 3) (oi := _) (v := ?_) rfl (by kernel_rfl) (by kernel_rfl) (by kernel_rfl) (fun _ _ _ h => h) (Or.inl ⟨by rfl, ?_⟩) (by assumption) ?_
  rotate_left
  · (intro W hW; go_simp; try with_reducible rfl)
  (try simp only [Act.put])
  refine wpAnyH_take (i := 4) (oi := ⟨some 61, _, _, _, _, _⟩) (v := .agg (msgA Dm (.slice a8 Dm.l.length c8'))) rfl (by kernel_rfl) (by kernel_rfl) (by kernel_rfl) (fun _ _ _ h => h) (y_row 29 _ rfl w8.heap.size rfl 29 _ _ (fun V h => KM8.out.grew (M10.out.trans h)) Try.underlying29 rfl (by kernel_rfl) rfl) (by assumption) ?_
  (try simp only [Act.put])
  refine wpAnyH_take (i := 5) (oi := ⟨some 62, _, _, _, _, _⟩) (v := .agg (msgA m (.slice a m.l.length c))) rfl (by kernel_rfl) (by kernel_rfl) (by kernel_rfl) (fun _ _ _ h => h) (y_row 29 _ rfl w.heap.size rfl 29 _ _ (fun V h => K0.out.grew (D10.out.trans h)) Try.underlying29 rfl (by kernel_rfl) rfl) (by assumption) ?_
  (try simp only [Act.put])
  refine wpAnyH_take (i := 6) (oi := _) (v := ?_) rfl (by kernel_rfl) (by kernel_rfl) (by kernel_rfl) (fun _ _ _ h => h) (Or.inl ⟨by rfl, ?_⟩) (by assumption) ?_
  rotate_left
  · (intro W hW; go_simp; try with_reducible rfl)
  (try simp only [Act.put])
  refine wpAnyH_ready (rs := [7]) (by kernel_rfl) (by simp) ?_
  refine AllReadyH.cons (o := _) rfl (fun K hK => ?_) AllReadyH.nil
  go_simp
  refine (KCL.out _ (G10.out.trans hHeld)).mono ?_
  rintro e w11 ⟨v11, rfl, ho11, g11, -⟩
  obtain ⟨a11, c11, rfl⟩ := tx_len (Sl.of_own ho11)
  have H11 := Lib.hid (hHeld.trans g11)
  have T11 := Lib.hid (Sl.of_own ho11)
  clear ho11 g11 hHeld
  go_simp
  refine hK.out _ _ H11.out (fun _ => ?_)
  clear hK K
  (try simp only [Act.put, List.setIfInBounds_toArray, List.set_cons_zero, List.set_cons_succ])
  refine wpAnyH_ready (rs := [8]) (by kernel_rfl) (by simp) ?_
  refine AllReadyH.cons (o := _) rfl (fun K hK => ?_) AllReadyH.nil
  go_simp
  refine (KSC.out _ _ (M10.out.trans H11.out) T11.out).mono ?_
  rintro e w12 ⟨rfl, g12⟩
  have H12 := Lib.hid (H11.out.trans g12)
  clear g12 H11 T11
  go_simp
  refine hK.out _ _ H12.out (fun _ => ?_)
  clear hK K
  (try simp only [Act.put, List.setIfInBounds_toArray, List.set_cons_zero, List.set_cons_succ])
  refine wpAnyH_tail 9 rfl (by kernel_rfl) (by kernel_rfl) (fun q => H12.out.trans (Drew.grew ⟨q, rfl⟩)) ?_
  simp only [List.drop_succ_cons, List.drop_zero]
  repeat (quiet_step (fail))
  refine wpQuiet_nil ?_
  rintro W13 ⟨nq, rfl⟩
  have G13 := Lib.hid (H12.out.trans (Drew.grew ⟨nq, rfl⟩))
  generalize w12.drewN nq = w13 at G13 ⊢
  clear H12
  have D13 := Lib.hid (D10.out.trans G13.out)
  have GW13 := Lib.hid (G10.out.trans G13.out)
  have HO13 := Lib.hid (own_grew HO3.out ((M8.out.trans M10.out).trans G13.out))
  clear qL G13
  obtain ⟨c0, c1, c2, c3, c4, c5, c6, c7, c8, c9⟩ := mcells (K0.out.grew D13.out)
  go_wp2_with fail
  refine (KX.out _ _ (Sl.of_own HO13.out)).mono ?_
  rintro e w14 ⟨lv14, rfl, ho14, g14⟩
  obtain ⟨a14, c14, rfl⟩ := tx_len (Sl.of_own ho14)
  obtain ⟨V14, hV14⟩ : ∃ V, V = (w14.alloc (.cells (msgA Sm (.slice a14 Sm.l.length c14)) 29)).alloc (.cells #[.int .i64 (Se : Nat), .int .i64 Sa] 32) := ⟨_, rfl⟩
  have gv : Grew w14 V14 := by rw [hV14]; exact grew22 _ _ _
  have km14 : Blk V14 w14.heap.size 29 (msgA Sm (.slice a14 Sm.l.length c14)) := by rw [hV14]; exact (Blk.new _ _ _).alloc _
  have KF14 := Lib.hid (show Blk V14 (w14.heap.size + 1) 32 #[.int .i64 (Se : Nat), .int .i64 Sa] by rw [hV14]; exact Blk.at (by simp))
  have M14 := Lib.hid (g14.trans gv)
  have D14 := Lib.hid (D13.out.trans M14.out)
  have G14 := Lib.hid (GW13.out.trans M14.out)
  have KS := Lib.hid (vsame_any Sm m (.slice a14 Sm.l.length c14) (.slice a m.l.length c) V14 (Sl.of_own (own_grew ho14 gv)) (HL.out.grew G14.out))
  simp only [msgA] at hV14 KS
  clear c0 c1 c2 c3 c4 c5 c6 c7 c8 c9
  obtain ⟨c0, c1, c2, c3, c4, c5, c6, c7, c8, c9⟩ := mcells (K0.out.grew D14.out)
  obtain ⟨d0, d1, d2, d3, d4, d5, d6, d7, d8, d9⟩ := mcells km14
  clear ho14 g14 gv km14
  go_upto_region 14 with (fail)
  rw [← hV14]
  clear hV14
  by_cases hvo : ver ≤ other
  · obtain ⟨h0, h1⟩ := HLE.out hvo
    have h0 : Se = 0 := h0
    have h1 : sameB Sm m = true := h1
    rw [h1] at KS
    subst h0
    obtain ⟨y0, y1, -, -⟩ := cells_of KF14.out
    clear h1 HLE HUN HS3
    go_wp2_with fail
    refine KS.out.mono ?_
    rintro e w15 ⟨rfl, g15⟩
    go_wp2
    go_ret
    exact ⟨rfl, G14.out.trans g15⟩
  · clear d0 d1 d2 d3 d4 d5 d6 d7 d8 d9 KS
    have hvo' : ¬ other ≥ ver := by omega
    go_wp2_with fail
    refine (KU.out _ _ (Sl.of_own (own_grew HO13.out M14.out))).mono ?_
    rintro e w15 ⟨rv, rfl, hf15, g15⟩
    obtain ⟨a15, c15, rfl⟩ := hf15.frs.shape
    obtain ⟨V15, hV15⟩ : ∃ V, V = w15.alloc (.cells #[.int .i64 (Ue : Nat), .int .i64 Ua] 32) := ⟨_, rfl⟩
    have gv : Grew w15 V15 := by rw [hV15]; exact grew_alloc _ _
    obtain ⟨y0, y1, -, -⟩ := cells_of (KF14.out.grew (g15.trans gv))
    have G15 := Lib.hid ((G14.out.trans g15).trans gv)
    clear hf15 g15 gv c0 c1 c2 c3 c4 c5 c6 c7 c8 c9
    go_upto_region 17 with (fail)
    rw [← hV15]
    clear hV15
    rcases HS3.out with h0 | h3
    · have h0 : Se = 0 := h0
      have hu : Ul = [] := HUN.out.1 h0
      subst h0
      subst hu
      clear HUN HS3 HLE
      go_wp2
      go_ret
      exact ⟨rfl, G15.out⟩
    · have h3 : Se = 3 := h3
      have hu : Ul ≠ [] := fun h => by have := HUN.out.2 h; have : Se = 0 := this; omega
      have hul : 0 < Ul.length := List.length_pos_iff.2 hu
      have qu : ((Ul.length : Int) == 0) = false := by rw [beq_eq_false_iff_ne]; omega
      subst h3
      clear HUN HS3 HLE hu hul
      go_wp2
      go_ret
      exact ⟨rfl, G15.out⟩
end Go.Proofs.Ytbjoohafgkodcaa
