/- WholeFixed: the walk. -/
import Derived.Test.YtbjoohafgkodcaaSv1
import Derived.Test.YtbjoohafgkodcaaSs7
namespace Go.Proofs.Ytbjoohafgkodcaa
open Go Go.RowKit Go.Shelf
attribute [local go_sem] Oper.semAt_some

theorem puts_bd {l : List Fld} (hl : l.length ≤ 20) (h : ∀ x ∈ l, x.ok ∧ (fB x).length ≤ 100) (hp : (putsF 0 l).2.1 = 0) : (putsF 0 l).1.length ≤ 2400 := by
  have hpe := putsF_each l 0 hp
  rw [putsF_all l 0 hpe]
  show (bytesFs l).length ≤ 2400
  have := flat_len (l := l) (c := 120) (fun x hx => by have := putF_bd (h x hx).1 (hpe x hx); have := (h x hx).2; omega)
  omega
set_option maxRecDepth 100000 in
set_option maxHeartbeats 8000000 in
theorem wfixed_walk (k : Nat) (ver : Int) (l : List UInt8) (A : List FFV) (v u : Value) (w : World) (hb : Bs w v l) (hA : FlR w u A) (hok : ∀ x ∈ A, x.1.ok) :
    Calls Try.prog 10 #[.int .u8 k, .int .i64 ver, v, u] w fun e w' => e = .returned (.bool true) ∧ Grew w w' := by
  obtain ⟨a, c, rfl⟩ := bs_len hb
  obtain ⟨aa, ca, rfl, -, hcap, -, h4⟩ := hA.1.open
  have H4 := Lib.hid h4
  clear h4
  have HB := Lib.hid hb
  have HA := Lib.hid hA
  have HOK := Lib.hid hok
  clear hb hA hok
  go_enter Try.func10, Try.ntmps10
  go_wp2_with fail
  refine (awakeMsg_any _).mono ?_
  rintro e w1 ⟨rfl, g1⟩
  have G1 := Lib.hid g1
  clear g1
  by_cases hl : 4000 < l.length
  · have q : decide ((l.length : Int) > 4000) = true := decide_eq_true (by omega)
    go_wp2
    go_ret
    exact ⟨rfl, G1.out⟩
  have q : decide ((l.length : Int) > 4000) = false := decide_eq_false (by omega)
  by_cases hl2 : 20 < A.length
  · have q2 : decide ((A.length : Int) > 20) = true := decide_eq_true (by omega)
    go_wp2
    go_ret
    exact ⟨rfl, G1.out⟩
  have q2 : decide ((A.length : Int) > 20) = false := decide_eq_false (by omega)
  have HLL := Lib.hid (show l.length ≤ 4000 by omega)
  have hal : A.length ≤ 20 := by omega
  have HAL := Lib.hid hal
  have KD := Lib.hid (fun W (g : Grew w W) => ldecode_any k ver l _ W (HB.out.grew g) (by omega))
  have KF := Lib.hid (fun W (g : Grew w W) => sfix_any k ver l _ W (HB.out.grew g) (by omega))
  have HERR := Lib.hid (fun h => decM_err (k := k) (ver := ver) (b := l) h)
  unfold DecP at KD
  unfold FixP at KF
  by_cases hE : (decM k ver l).2.1 ≠ 0
  · have hz := HERR.out hE
    obtain ⟨D, hD⟩ : ∃ D, D = decM k ver l := ⟨_, rfl⟩
    rw [← hD] at KD hE hz
    obtain ⟨Dm, De, Da⟩ := D
    have hz : Dm = mZ := hz
    subst hz
    have qd : ((De : Int) != 0) = true := by have : De ≠ 0 := hE; simp; omega
    simp only [fltI, msgA, mZ, Int.natCast_zero] at KD
    clear hD hE hl hl2 KF HERR
    go_wp2_with fail
    refine (KD.out _ G1.out).mono ?_
    rintro e w2 ⟨lv2, rfl, ho2, g2⟩
    obtain ⟨a2, c2, rfl⟩ := tx_len (Sl.of_own ho2)
    obtain ⟨V2, hV2⟩ : ∃ V, V = (w2.alloc (.cells (msgA mZ (.slice a2 ([] : List ByteArray).length c2)) 29)).alloc (.cells #[.int .i64 (De : Nat), .int .i64 Da] 32) := ⟨_, rfl⟩
    have gv : Grew w2 V2 := by rw [hV2]; exact grew22 _ _ _
    have km : Blk V2 w2.heap.size 29 (msgA mZ (.slice a2 ([] : List ByteArray).length c2)) := by rw [hV2]; exact (Blk.new _ _ _).alloc _
    have kf : Blk V2 (w2.heap.size + 1) 32 #[.int .i64 (De : Nat), .int .i64 Da] := by rw [hV2]; exact Blk.at (by simp)
    have G2 := Lib.hid ((G1.out.trans g2).trans gv)
    have KS := Lib.hid (vsame_any mZ mZ (.slice a2 ([] : List ByteArray).length c2) (.slice none 0 0) V2 (Sl.of_own (own_grew ho2 gv)) (Sl.nil V2 1))
    rw [same_refl3] at KS
    obtain ⟨x0, x1, -, -⟩ := cells_of kf
    obtain ⟨c0, c1, c2, c3, c4, c5, c6, c7, c8, c9⟩ := mcells km
    simp only [msgA, mZ, List.length_nil, Int.natCast_zero] at hV2 KS c0 c1 c2 c3 c4 c5 c6 c7 c8 c9
    clear gv ho2 g2 km kf
    go_upto_region 6 with (fail)
    rw [← hV2]
    clear hV2
    go_wp2_with fail
    refine KS.out.mono ?_
    rintro e w3 ⟨rfl, g3⟩
    go_wp2
    go_ret
    exact ⟨rfl, G2.out.trans g3⟩
  have hE0 : (decM k ver l).2.1 = 0 := by omega
  have hz := decM_z hE0
  rw [both_ok hE0] at KF
  have hfl := fix_len hE0
  have hfx := fix_law hE0
  have HMORE := Lib.hid (fun (more : List Fld) hm hok hp => more_law hE0 HLL.out (more := more) hm hok hp)
  obtain ⟨B, hB⟩ : ∃ B, B = msgB (decM k ver l).1 (ofKind k (rowsIn ver)) := ⟨_, rfl⟩
  rw [← hB] at KF hfl hfx HMORE
  obtain ⟨Dm, hDm⟩ : ∃ D, D = (decM k ver l).1 := ⟨_, rfl⟩
  rw [← hDm] at KF hfx hz HMORE
  rw [hz] at KD
  have KO := Lib.hid (fun W v (hb : Bs W v B) => sdecode_any k ver B v W hb (by omega))
  unfold StrP at KO
  obtain ⟨O, hO⟩ : ∃ O, O = (strM k ver B).1 := ⟨_, rfl⟩
  have e2 : strM k ver B = (O, 0, 0) := Prod.ext hO.symm hfx.1
  rw [e2] at KO hfx
  have HS := Lib.hid (show sameB O Dm = true from hfx.2)
  have qbl : decide ((B.length : Int) > (l.length : Int)) = false := decide_eq_false (by omega)
  have qbl2 : decide (l.length < B.length) = false := decide_eq_false (by omega)
  have qbl3 : ¬ l.length < B.length := by omega
  have HFL := Lib.hid hfl
  simp only [fltI, msgA, Int.natCast_zero] at KD KF KO
  clear hz hfl hfx hB hDm hO e2 hE hE0 hl hl2 HERR
  go_wp2_with fail
  refine (KD.out _ G1.out).mono ?_
  rintro e w2 ⟨lv2, rfl, ho2, g2⟩
  obtain ⟨a2, c2', rfl⟩ := tx_len (Sl.of_own ho2)
  obtain ⟨V2, hV2⟩ : ∃ V, V = (w2.alloc (.cells (msgA Dm (.slice a2 Dm.l.length c2')) 29)).alloc (.cells #[.int .i64 0, .int .i64 0] 32) := ⟨_, rfl⟩
  have gv : Grew w2 V2 := by rw [hV2]; exact grew22 _ _ _
  have KM2 := Lib.hid (show Blk V2 w2.heap.size 29 (msgA Dm (.slice a2 Dm.l.length c2')) by rw [hV2]; exact (Blk.new _ _ _).alloc _)
  have KF2 := Lib.hid (show Blk V2 (w2.heap.size + 1) 32 #[.int .i64 0, .int .i64 0] by rw [hV2]; exact Blk.at (by simp))
  have T2 := Lib.hid (own_grew ho2 gv)
  have M2 := Lib.hid (g2.trans gv)
  have G2 := Lib.hid (G1.out.trans M2.out)
  obtain ⟨x0, x1, -, -⟩ := cells_of KF2.out
  simp only [msgA] at hV2
  clear gv ho2 g2 KD
  go_upto_region 6 with (fail)
  rw [← hV2]
  clear hV2
  go_wp2_with fail
  refine (KF.out _ G2.out).mono ?_
  rintro e w3 ⟨ov, rfl, ho3, g3⟩
  obtain ⟨a3, c3, rfl⟩ := bs_len (Sl.of_own ho3)
  obtain ⟨V3, hV3⟩ : ∃ V, V = w3.alloc (.cells #[.int .i64 0, .int .i64 0] 32) := ⟨_, rfl⟩
  have gv : Grew w3 V3 := by rw [hV3]; exact grew_alloc _ _
  have KF3 := Lib.hid (show Blk V3 w3.heap.size 32 #[.int .i64 0, .int .i64 0] by rw [hV3]; exact Blk.new _ _ _)
  have M3 := Lib.hid (g3.trans gv)
  have G3 := Lib.hid (G2.out.trans M3.out)
  have HO3 := Lib.hid (own_grew ho3 gv)
  clear gv g3 KF ho3 x0 x1
  go_upto_region 9 with (fail)
  rw [← hV3]
  clear hV3
  go_wp2_with fail
  refine (KO.out V3 _ (Sl.of_own HO3.out)).mono ?_
  rintro e w4 ⟨lv4, rfl, ho4, g4⟩
  obtain ⟨a4, c4', rfl⟩ := tx_len (Sl.of_own ho4)
  obtain ⟨V4, hV4⟩ : ∃ V, V = (w4.alloc (.cells (msgA O (.slice a4 O.l.length c4')) 29)).alloc (.cells #[.int .i64 0, .int .i64 0] 32) := ⟨_, rfl⟩
  have gv : Grew w4 V4 := by rw [hV4]; exact grew22 _ _ _
  have KM4 := Lib.hid (show Blk V4 w4.heap.size 29 (msgA O (.slice a4 O.l.length c4')) by rw [hV4]; exact (Blk.new _ _ _).alloc _)
  have KF4 := Lib.hid (show Blk V4 (w4.heap.size + 1) 32 #[.int .i64 0, .int .i64 0] by rw [hV4]; exact Blk.at (by simp))
  have T4 := Lib.hid (own_grew ho4 gv)
  have M4 := Lib.hid (g4.trans gv)
  have G4 := Lib.hid (G3.out.trans M4.out)
  have M24 := Lib.hid (M3.out.trans M4.out)
  have KS := Lib.hid (vsame_any O Dm (.slice a4 O.l.length c4') (.slice a2 Dm.l.length c2') V4 (Sl.of_own T4.out) (Sl.of_own (own_grew T2.out M24.out)))
  rw [HS.out] at KS
  simp only [msgA] at KS
  obtain ⟨y0, y1, -, -⟩ := cells_of (KF3.out.grew M4.out)
  obtain ⟨i0, i1, -, -⟩ := cells_of KF4.out
  obtain ⟨c0, c1, c2, c3, c4, c5, c6, c7, c8, c9⟩ := mcells (KM2.out.grew M24.out)
  obtain ⟨d0, d1, d2, d3, d4, d5, d6, d7, d8, d9⟩ := mcells KM4.out
  simp only [msgA] at hV4
  clear gv ho4 g4 KO
  go_upto_region 10 with (fail)
  rw [← hV4]
  clear hV4
  go_wp2_with fail
  refine KS.out.mono ?_
  rintro e w5 ⟨rfl, g5⟩
  have M5 := Lib.hid (M24.out.trans g5)
  have B5 := Lib.hid (Sl.of_own (own_grew HO3.out (M4.out.trans g5)))
  have G5 := Lib.hid (G4.out.trans g5)
  clear g5 c0 c1 c2 c3 c4 c5 c6 c7 c8 c9 d0 d1 d2 d3 d4 d5 d6 d7 d8 d9 y0 y1 i0 i1 KS
  go_wp2_with fail
  obtain ⟨isP, hisP⟩ : ∃ f : Fld → Bool, f = fun x => decide (7 < x.1) := ⟨_, rfl⟩
  have HIS := Lib.hid hisP
  clear hisP
  go_loopw [15, 16] (fun vo i wr => ∃ j : Nat, j ≤ A.length ∧ i = .int .i64 j ∧ OwnF wr w5.heap.size vo ((A.take j).filter fun p => isP p.1) ∧ Grew w5 wr ∧ RowKit.Hid (∀ p ∈ A.take j, (fB p.1).length ≤ 100)) (fun _ i _ => A.length - (intOf i).toNat)
  case atStart => exact ⟨0, Nat.zero_le _, rfl, World.ownsRow_nil _ _ _ _, Below.refl _ _, Lib.hid fun p hp => by simp at hp⟩
  case round =>
    obtain ⟨j, hj, rfl, ho, hG, h100⟩ := hrel
    obtain ⟨P, hP⟩ : ∃ P, P = (A.take j).filter fun p => isP p.1 := ⟨_, rfl⟩
    rw [← hP] at ho
    have HP := Lib.hid hP
    have hPl : P.length ≤ j := by rw [hP]; refine Nat.le_trans (List.length_filter_le _ _) (by simp; omega)
    obtain ⟨a9, c9, rfl, -⟩ := (Sl.of_own ho).open
    have HO := Lib.hid ho
    clear ho hP
    by_cases hlt : j < A.length
    · have HF := Lib.hid (HA.out.grew (G5.out.trans hG))
      obtain ⟨b, o, rfl, -⟩ := H4.out (by omega)
      obtain ⟨x0, x1, x2, x3, x4, x5⟩ := fl_cells HF.out j hlt
      have hts : (A.take (j + 1)).filter (fun p => isP p.1) = P ++ [A[j]].filter fun p => isP p.1 := by rw [List.take_succ_eq_append_getElem hlt, List.filter_append, HP.out]
      have h101 : (fB A[j].1).length ≤ 100 → RowKit.Hid (∀ p ∈ A.take (j + 1), (fB p.1).length ≤ 100) := fun h => by
        refine Lib.hid fun p hp => ?_
        rw [List.take_succ_eq_append_getElem hlt] at hp
        rcases List.mem_append.1 hp with hp | hp
        · exact h100.out p hp
        · rw [List.mem_singleton.1 hp]; exact h
      obtain ⟨⟨X, xv⟩, hr⟩ : ∃ r, r = A[j] := ⟨_, rfl⟩
      rw [← hr] at x0 x1 x2 x3 x4 x5 hts h101
      simp only at x0 x1 x2 x3 x4 x5 h101
      obtain ⟨xa, xn, xc, rfl, hxn⟩ := bs_shape x5
      have HX5 := Lib.hid x5
      have HTS := Lib.hid hts
      have H101 := Lib.hid h101
      have z1 : (j : Int) < (A.length : Int) := by omega
      have z0 : (0 : Int) ≤ (j : Int) := by omega
      clear hr x5 hts h101 h100
      by_cases hx : 100 < xn
      · have qx : decide ((xn : Int) > 100) = true := decide_eq_true (by omega)
        go_wp2
        go_ret
        exact ⟨rfl, G5.out.trans hG⟩
      have qx : decide ((xn : Int) > 100) = false := decide_eq_false (by omega)
      have h102 := H101.out (by rw [← hxn.out]; omega)
      cases his : isP X with
      | false =>
        have qn : decide (X.1 > 7) = false := by rw [HIS.out] at his; exact his
        have HISX := Lib.hid his
        clear his hxn hx
        go_wp2
        go_roundw
        case rel => exact ⟨j + 1, by omega, by go_num, by rw [HTS.out]; simpa [HISX.out] using HO.out, hG, h102⟩
        case measure => simp [intOf]; omega
      | true =>
        have qn : decide (X.1 > 7) = true := by rw [HIS.out] at his; exact his
        have HISX := Lib.hid his
        have hsl : Sl (wr.alloc (.cells #[.int .i64 X.1, .int .u8 (X.2.1 : Nat), .int .u64 (X.2.2.1 : Nat), .slice xa xn xc, .int .i64 X.2.2.2.2] 44)) (.slice (some ⟨wr.heap.size, 0, none⟩) 1 1) 1 5 (ffv (X, .slice xa xn xc)) := Sl.lit wr 44 (0, 0) #[.int .i64 X.1, .int .u8 (X.2.1 : Nat), .int .u64 (X.2.2.1 : Nat), .slice xa xn xc, .int .i64 X.2.2.2.2] 1 5 rfl (by unfold maxLen; omega)
        have g3 := grew_alloc wr (.cells #[.int .i64 X.1, .int .u8 (X.2.1 : Nat), .int .u64 (X.2.2.1 : Nat), .slice xa xn xc, .int .i64 X.2.2.2.2] 44)
        have HSL := Lib.hid hsl
        have HO3' := Lib.hid (own_grew HO.out g3)
        have GG := Lib.hid (hG.trans g3)
        have hb5 := HX5.out.grew g3
        clear his hsl hxn hx
        go_wp2_with (at_builtin; refine wpList_pushFo rfl _ _ rfl w5.heap.size _ P rfl HO3'.out _ rfl (X, .slice xa xn xc) HSL.out hb5 (by omega) GG.out.size ?_; intro v' w3 hown3 hB3 hgb)
        refine ⟨⟨j + 1, by omega, by go_num, by rw [HTS.out]; simpa [HISX.out] using hown3, Below.trans GG.out hB3, h102⟩, ?_⟩
        simp [intOf]; omega
    · obtain rfl : j = A.length := by omega
      have hPP := HP.out
      rw [List.take_length] at hPP
      have h100' := h100.out
      rw [List.take_length] at h100'
      have hsub : ∀ p ∈ P, p ∈ A ∧ 7 < p.1.1 := fun p hp => by
        rw [hPP, List.mem_filter] at hp
        have h2 := hp.2
        rw [HIS.out] at h2
        exact ⟨hp.1, by simpa using h2⟩
      have hpok : ∀ p ∈ P, p.1.ok ∧ (fB p.1).length ≤ 100000000 := fun p hp => ⟨HOK.out p (hsub p hp).1, by have := h100' p (hsub p hp).1; omega⟩
      have hPl2 : P.length ≤ 20 := by have := HAL.out; omega
      have FP := Lib.hid (show FlR wr (.slice a9 P.length c9) P from ⟨Sl.of_own HO.out, fun p hp => (HA.out.grew (G5.out.trans hG)).2 p (hsub p hp).1⟩)
      have hmore := HMORE.out (P.map (·.1)) (by rw [List.length_map]; exact hPl2) (fun x hx => by
        obtain ⟨p, hp, rfl⟩ := List.mem_map.1 hx
        exact ⟨(hpok p hp).1, h100' p (hsub p hp).1, (hsub p hp).2⟩)
      have hpd := fun h => puts_bd (l := P.map (·.1)) (by rw [List.length_map]; exact hPl2) (fun x hx => by
        obtain ⟨p, hp, rfl⟩ := List.mem_map.1 hx
        exact ⟨(hpok p hp).1, h100' p (hsub p hp).1⟩) h
      have KPU := Lib.hid (skPut_any P (.slice a9 P.length c9) wr FP.out hpok (by omega))
      obtain ⟨R, hR⟩ : ∃ R, R = putsF 0 (P.map (·.1)) := ⟨_, rfl⟩
      rw [← hR] at KPU hmore hpd
      obtain ⟨C, Pe, Pa⟩ := R
      have HMR := Lib.hid hmore
      have HPD := Lib.hid (show Pe = 0 → C.length ≤ 2400 from hpd)
      have G6 := Lib.hid (G5.out.trans hG)
      have M6 := Lib.hid (M5.out.trans hG)
      have B6 := Lib.hid (B5.out.grew hG)
      clear hPP h100' hsub hpok hmore hpd hR HMORE h100
      go_wp2_with fail
      refine (KPU.out).mono ?_
      rintro e w7 ⟨v7, rfl, ho7, g7⟩
      obtain ⟨a7, c7, rfl⟩ := bs_len (Sl.of_own ho7)
      obtain ⟨V7, hV7⟩ : ∃ V, V = w7.alloc (.cells #[.int .i64 (Pe : Nat), .int .i64 (Pa : Nat)] 32) := ⟨_, rfl⟩
      have gv : Grew w7 V7 := by rw [hV7]; exact grew_alloc _ _
      have KF7 := Lib.hid (show Blk V7 w7.heap.size 32 #[.int .i64 (Pe : Nat), .int .i64 (Pa : Nat)] by rw [hV7]; exact Blk.new _ _ _)
      have M7 := Lib.hid (g7.trans gv)
      have G7 := Lib.hid (G6.out.trans M7.out)
      have B7 := Lib.hid (Sl.of_own (own_grew ho7 gv))
      obtain ⟨x0, x1, -, -⟩ := cells_of KF7.out
      clear gv g7 KPU ho7
      go_upto_region 21 with (fail)
      rw [← hV7]
      clear hV7
      by_cases hpe : Pe ≠ 0
      · have qp : ((Pe : Int) != 0) = true := by simp; omega
        go_wp2
        go_ret
        exact ⟨rfl, G7.out⟩
      have hpe : Pe = 0 := by omega
      have qp : ((Pe : Int) != 0) = false := by simp; omega
      obtain ⟨r1, r2, r3, r4⟩ := HMR.out hpe
      have hCl := HPD.out hpe
      have r1 : (decM k ver (B ++ C)).2.1 = 0 := r1
      have r2 : sameB (decM k ver (B ++ C)).1 Dm = true := r2
      have r3 : (unkM k ver (B ++ C)).2.1 = 0 := r3
      have r4 : (unkM k ver (B ++ C)).1.length = P.length := by rw [show (unkM k ver (B ++ C)).1.length = (P.map (·.1)).length from r4, List.length_map]
      obtain ⟨X, hX⟩ : ∃ X, X = B ++ C := ⟨_, rfl⟩
      have hXl : X.length ≤ 1000000 := by rw [hX, List.length_append]; have := HFL.out; have := HLL.out; omega
      have KD2 := Lib.hid (fun W v (hb : Bs W v X) => ldecode_any k ver X v W hb hXl)
      have KU2 := Lib.hid (fun W v (hb : Bs W v X) => lunknown_any k ver X v W hb hXl)
      have KJ := Lib.hid (fun W (g : Grew V7 W) => join_any B C _ _ W ((B6.out.grew M7.out).grew g) (B7.out.grew g) (by have := HFL.out; have := HLL.out; omega))
      rw [← hX] at r1 r2 r3 r4 KJ
      unfold DecP at KD2
      unfold UnkP at KU2
      obtain ⟨D2, hD2⟩ : ∃ D, D = decM k ver X := ⟨_, rfl⟩
      obtain ⟨U2, hU2⟩ : ∃ D, D = unkM k ver X := ⟨_, rfl⟩
      rw [← hD2] at KD2 r1 r2
      rw [← hU2] at KU2 r3 r4
      obtain ⟨Em, Ee, Ea⟩ := D2
      obtain ⟨Ul, Ue, Ua⟩ := U2
      have r1 : Ee = 0 := r1
      have r3 : Ue = 0 := r3
      subst r1
      subst r3
      have R2 := Lib.hid (show sameB Em Dm = true from r2)
      have qu : ((Ul.length : Int) == (P.length : Int)) = true := by have : Ul.length = P.length := r4; rw [this]; simp
      simp only [msgA, fltI, Int.natCast_zero] at KD2 KU2
      clear hpe r2 r4 hX hXl hD2 hU2 HMR HPD
      go_wp2_with fail
      refine (KJ.out _ (Below.refl _ _)).mono ?_
      rintro e w8 ⟨v8, rfl, ho8, g8⟩
      obtain ⟨a8, c8, rfl⟩ := bs_len (Sl.of_own ho8)
      have B8 := Lib.hid (Sl.of_own ho8)
      have G8 := Lib.hid (G7.out.trans g8)
      have M8 := Lib.hid g8
      clear ho8 g8 x0 x1
      go_wp2_with fail
      refine (KD2.out _ _ B8.out).mono ?_
      rintro e w9 ⟨lv9, rfl, ho9, g9⟩
      obtain ⟨a9', c9', rfl⟩ := tx_len (Sl.of_own ho9)
      obtain ⟨V9, hV9⟩ : ∃ V, V = (w9.alloc (.cells (msgA Em (.slice a9' Em.l.length c9')) 29)).alloc (.cells #[.int .i64 0, .int .i64 Ea] 32) := ⟨_, rfl⟩
      have gv : Grew w9 V9 := by rw [hV9]; exact grew22 _ _ _
      have KM9 := Lib.hid (show Blk V9 w9.heap.size 29 (msgA Em (.slice a9' Em.l.length c9')) by rw [hV9]; exact (Blk.new _ _ _).alloc _)
      have KF9 := Lib.hid (show Blk V9 (w9.heap.size + 1) 32 #[.int .i64 0, .int .i64 Ea] by rw [hV9]; exact Blk.at (by simp))
      have T9 := Lib.hid (own_grew ho9 gv)
      have M9 := Lib.hid (g9.trans gv)
      have G9 := Lib.hid (G8.out.trans M9.out)
      have M79 := Lib.hid (M8.out.trans M9.out)
      simp only [msgA] at hV9
      clear gv ho9 g9 KD2
      go_upto_region 24 with (fail)
      rw [← hV9]
      clear hV9
      go_wp2_with fail
      refine (KJ.out _ M79.out).mono ?_
      rintro e w10 ⟨v10, rfl, ho10, g10⟩
      obtain ⟨a10, c10, rfl⟩ := bs_len (Sl.of_own ho10)
      have B10 := Lib.hid (Sl.of_own ho10)
      have G10 := Lib.hid (G9.out.trans g10)
      have M10 := Lib.hid g10
      clear ho10 g10 KJ
      go_wp2_with fail
      refine (KU2.out _ _ B10.out).mono ?_
      rintro e w11 ⟨rv, rfl, hf11, g11⟩
      obtain ⟨a11, c11, rfl⟩ := hf11.frs.shape
      obtain ⟨V11, hV11⟩ : ∃ V, V = w11.alloc (.cells #[.int .i64 0, .int .i64 Ua] 32) := ⟨_, rfl⟩
      have gv : Grew w11 V11 := by rw [hV11]; exact grew_alloc _ _
      have KF11 := Lib.hid (show Blk V11 w11.heap.size 32 #[.int .i64 0, .int .i64 Ua] by rw [hV11]; exact Blk.new _ _ _)
      have M11 := Lib.hid (g11.trans gv)
      have G11 := Lib.hid (G10.out.trans M11.out)
      obtain ⟨x0, x1, -, -⟩ := cells_of (KF9.out.grew (M10.out.trans M11.out))
      obtain ⟨y0, y1, -, -⟩ := cells_of KF11.out
      have M1 := Lib.hid ((((M6.out.trans M7.out).trans M79.out).trans M10.out).trans M11.out)
      have M9E := Lib.hid (M10.out.trans M11.out)
      have KS := Lib.hid (vsame_any Em Dm (.slice a9' Em.l.length c9') (.slice a2 Dm.l.length c2') V11 (Sl.of_own (own_grew T9.out M9E.out)) (Sl.of_own (own_grew T2.out M1.out)))
      rw [R2.out] at KS
      simp only [msgA] at KS
      obtain ⟨c0, c1, c2, c3, c4, c5, c6, c7, c8, c9⟩ := mcells (KM2.out.grew M1.out)
      obtain ⟨d0, d1, d2, d3, d4, d5, d6, d7, d8, d9⟩ := mcells (KM9.out.grew M9E.out)
      clear gv g11 hf11 KU2
      go_upto_region 25 with (fail)
      rw [← hV11]
      clear hV11
      go_wp2_with fail
      refine KS.out.mono ?_
      rintro e w12 ⟨rfl, g12⟩
      go_wp2
      go_ret
      exact ⟨rfl, G11.out.trans g12⟩
end Go.Proofs.Ytbjoohafgkodcaa
