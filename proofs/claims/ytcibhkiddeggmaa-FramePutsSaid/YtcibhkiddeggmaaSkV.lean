/- skip.Put: contract. ; skip.put, rescriptref06.Bytes: contracts. -/
import Derived.Test.YtcibhkiddeggmaaSkP
import Derived.Test.YtcibhkiddeggmaaFld
import Derived.Test.YtcibhkiddeggmaaOal
namespace Go.Proofs.Ytcibhkiddeggmaa
open Go Go.RowKit Go.Shelf
attribute [local go_sem] Oper.semAt_some

theorem vput_le10 (n : Nat) (h : n < 18446744073709551616) : (vput n).length ≤ 10 := by
  have := vput_len 9 n (by omega)
  omega
theorem putR_room (b l : List UInt8) (m : Nat) (h : b.length + l.length ≤ m) : putR b l m = (b ++ l, 0) := by unfold putR; rw [if_neg (by omega)]
theorem valB_len {x : Fld} (hx : x.ok) (hb : (fB x).length ≤ 8192) : (valB x).length ≤ 8202 := by
  obtain ⟨-, -, -, hn⟩ := hx
  unfold valB
  split
  · have := vput_le10 (fN x) hn; omega
  split
  · rw [fixB_length]; omega
  split
  · rw [fixB_length]; omega
  · rw [List.length_append]
    have := vput_le10 (fB x).length (by omega)
    omega
set_option maxRecDepth 100000 in
set_option maxHeartbeats 4000000 in
theorem skput_any (x : Fld) (v : Value) (w : World) (hx : x.ok) (hb : Bs w v (fB x)) (hl : (fB x).length ≤ 100000000) :
    Calls Try.prog 39 #[fldA x v] w fun e w' => ∃ v', e = .returned (.tuple #[v', .int .i64 (putF x).2]) ∧ OwnB w' w.heap.size v' (putF x).1 ∧ Grew w w' := by
  obtain ⟨num, wire, n, bs, p1⟩ := x
  obtain ⟨hx1, hx2, hx3, hx4⟩ := id hx
  simp only [fNum, fWire, fN, fB] at hb hl hx1 hx2 hx3 hx4
  obtain ⟨a, c, rfl⟩ := bs_len hb
  obtain ⟨w0, hw0⟩ : ∃ w0, w0 = w.alloc (.cells #[.int .i64 num, .int .u8 wire, .int .u64 n, .slice a bs.length c, .int .i64 p1] 81) := ⟨_, rfl⟩
  have gw0 : Grew w w0 := by rw [hw0]; exact grew_alloc _ _
  have k0 : Blk w0 w.heap.size 81 #[.int .i64 num, .int .u8 wire, .int .u64 n, .slice a bs.length c, .int .i64 p1] := by rw [hw0]; exact Blk.new _ _ _
  obtain ⟨T, hT⟩ : ∃ T, T = tmake num wire := ⟨_, rfl⟩
  obtain ⟨R, hR⟩ : ∃ R, R = putF (num, wire, n, bs, p1) := ⟨_, rfl⟩
  rw [← hR]
  have HR := Lib.hid hR
  have HT := Lib.hid hT
  have HX := Lib.hid hx
  have HB := Lib.hid (hb.grew gw0)
  have GW := Lib.hid gw0
  have hlt := tmake_lt num wire hx3
  rw [← hT] at hlt
  have KT := Lib.hid (fun base F b p m w h => otag_any base F b p m num wire hx1 hx2 hx3 w h)
  clear hR hT hx hb gw0 hx1 hx2
  go_enter Try.func39, Try.ntmps39
  go_wp2_with fail
  rw [← hw0]
  refine (onew_any 1048576 w0).mono ?_
  rintro e w1 ⟨rfl, hO, g1⟩
  have hcl : clampM 1048576 = 1048576 := by decide
  rw [hcl] at hO
  obtain ⟨p, hp⟩ : ∃ p, p = w0.heap.size := ⟨_, rfl⟩
  have hz0 : w.heap.size < p := by rw [hp, hw0]; simp
  rw [← hp] at hO ⊢
  have hpz : w0.heap.size ≤ p := by omega
  have k1 := k0.grew g1
  obtain ⟨x0, x1, x2, x3, x4, -⟩ := cells5 k1
  clear hcl hw0 hp
  go_wp2_with fail
  refine (KT.out _ _ _ _ _ _ hO).mono ?_
  have HTT : RowKit.Hid (tagP [] num wire 1048576 = if T.2 ≠ 0 then ([], T.2) else (vput T.1, 0)) := Lib.hid (by
    unfold tagP
    rw [← HT.out]
    split
    · rfl
    · rw [putR_room _ _ _ (by have := vput_le10 T.1 (by omega); simp; omega)]; rfl)
  rw [HTT.out]
  by_cases ht : T.2 ≠ 0
  · have hne : ((T.2 : Int) != 0) = true := by simp; omega
    have HRR := Lib.hid (show R = ([], T.2) by rw [HR.out]; unfold putF; simp only [fNum, fWire]; rw [← HT.out, if_pos ht])
    rintro e w2 ⟨rfl, F2, hO2, hF2, hN2⟩
    have G2 : Grew w w2 := hF2.grew (GW.out.trans g1) (fun i e => by omega)
    rw [if_pos ht]
    clear ht hO2
    go_wp2
    go_ret2
    rw [HRR.out]
    exact ⟨_, rfl, ownB_nil _ _, G2⟩
  · rw [if_neg ht]
    rintro e w2 ⟨rfl, F2, hO2, hF2, hN2⟩
    have hz1 := g1.size
    have hw0z := k0.lt
    have k2 := k1.fr hF2 (by omega)
    have hz2 := hF2.size
    have G2 : Grew w w2 := hF2.grew (GW.out.trans g1) (fun i e => by omega)
    have hmk := tmake_ok (num := num) (wire := wire) (by rw [← HT.out]; omega)
    have HTV := Lib.hid (vput_le10 T.1 (by omega))
    have HP0 := Lib.hid (show (¬ (wire = 2 ∧ 8192 < bs.length)) → R = (vput T.1 ++ valB (num, wire, n, bs, p1), 0) from fun h => by rw [HR.out]; unfold putF; simp only [fNum, fWire, fB]; rw [← HT.out, if_neg ht, if_neg h])
    have HP1 := Lib.hid (show wire = 2 → 8192 < bs.length → R = ([], 2) from fun h h' => by rw [HR.out]; unfold putF; simp only [fNum, fWire, fB]; rw [← HT.out, if_neg ht, if_pos ⟨h, h'⟩])
    have hVB := Lib.hid (show bs.length ≤ 8192 → (valB (num, wire, n, bs, p1)).length ≤ 8202 from fun h => valB_len HX.out h)
    have hF2' := hF2
    have hp0 : w0.heap.size ≤ p := hpz
    clear k1 x0 x1 x2 x3 x4 hO ht hF2
    obtain ⟨x0, x1, x2, x3, x4, -⟩ := cells5 k2
    have hw4 := hmk.2.2.1
    clear hmk
    have hp1 : w1.heap.size ≤ w2.heap.size := hz2
    rcases wireB_or hw4 with rfl | rfl | rfl | rfl
    · have HP := Lib.hid (show R = (vput T.1 ++ vput n, 0) from HP0.out (by omega))
      go_wp2_with fail
      refine (ovarint_any _ _ _ _ _ n hx4 _ hO2).mono ?_
      rw [putR_room _ _ _ (by have := HTV.out; have := vput_le10 n hx4; omega)]
      rintro e w3 ⟨rfl, F3, hO3, hF3, hN3⟩
      have G3 : Grew w w3 := hF3.grew G2 (fun i hi => by have := (hO2.own i hi).1; omega)
      have hO3' := Lib.hid hO3
      clear hO3 hO2 x0 x1 x2 x3 x4
      go_wp2_with fail
      refine (oout_any _ _ _ _ _ _ hO3'.out).mono ?_
      rintro e w4 ⟨v4, rfl, ho4, g4⟩
      obtain ⟨a4, n4, c4, rfl, hn4⟩ := bs_shape (Sl.of_own ho4)
      have hz3 := G3.size
      have HO4 := Lib.hid ho4
      clear ho4
      go_wp2
      go_ret2
      rw [HP.out]
      exact ⟨_, rfl, own_mono HO4.out hz3, G3.trans g4⟩
    · have HP := Lib.hid (show R = (vput T.1 ++ fixB 8 n, 0) from HP0.out (by omega))
      go_wp2_with fail
      refine (oeight_any _ _ _ _ _ n hx4 _ hO2).mono ?_
      rw [putR_room _ _ _ (by have := HTV.out; rw [fixB_length]; omega)]
      rintro e w3 ⟨rfl, F3, hO3, hF3, hN3⟩
      have G3 : Grew w w3 := hF3.grew G2 (fun i hi => by have := (hO2.own i hi).1; omega)
      have hO3' := Lib.hid hO3
      clear hO3 hO2 x0 x1 x2 x3 x4
      go_wp2_with fail
      refine (oout_any _ _ _ _ _ _ hO3'.out).mono ?_
      rintro e w4 ⟨v4, rfl, ho4, g4⟩
      obtain ⟨a4, n4, c4, rfl, hn4⟩ := bs_shape (Sl.of_own ho4)
      have hz3 := G3.size
      have HO4 := Lib.hid ho4
      clear ho4
      go_wp2
      go_ret2
      rw [HP.out]
      exact ⟨_, rfl, own_mono HO4.out hz3, G3.trans g4⟩
    · by_cases hbig : 8192 < bs.length
      · have HP := Lib.hid (HP1.out rfl hbig)
        have hd : decide ((bs.length : Int) > 8192) = true := by simp; omega
        clear hbig
        go_wp2
        go_ret2
        rw [HP.out]
        exact ⟨_, rfl, ownB_nil _ _, G2⟩
      · have hd : decide ((bs.length : Int) > 8192) = false := by simp; omega
        have HP := Lib.hid (show R = (vput T.1 ++ (vput bs.length ++ bs), 0) from HP0.out (by omega))
        have hb8 : bs.length ≤ 8192 := by omega
        clear hbig
        go_wp2_with fail
        have hbs2 : Bs w2 (.slice a bs.length c) bs := (HB.out.grew g1).fr hF2' (fun g hg hne e => by have := HB.out.blk_lt g hg hne; omega)
        refine (obytes_any _ _ _ bs _ _ _ _ hO2 hbs2 (fun g hg hne hf => by have := HB.out.blk_lt g hg (by simpa [bv] using hne); have := (hO2.own g hf).1; omega) (by omega)).mono ?_
        rw [putR_room _ _ _ (by have := HTV.out; have := vput_le10 bs.length (by omega); rw [List.length_append]; omega)]
        rintro e w3 ⟨rfl, F3, hO3, hF3, hN3⟩
        have G3 : Grew w w3 := hF3.grew G2 (fun i hi => by have := (hO2.own i hi).1; omega)
        have hO3' := Lib.hid hO3
        clear hO3 hO2 x0 x1 x2 x3 x4
        go_wp2_with fail
        refine (oout_any _ _ _ _ _ _ hO3'.out).mono ?_
        rintro e w4 ⟨v4, rfl, ho4, g4⟩
        obtain ⟨a4, n4, c4, rfl, hn4⟩ := bs_shape (Sl.of_own ho4)
        have hz3 := G3.size
        have HO4 := Lib.hid ho4
        clear ho4
        go_wp2
        go_ret2
        rw [HP.out]
        exact ⟨_, rfl, own_mono HO4.out hz3, G3.trans g4⟩
    · have HP := Lib.hid (show R = (vput T.1 ++ fixB 4 (n % 4294967296), 0) from HP0.out (by omega))
      go_wp2_with fail
      refine (ofour_any _ _ _ _ _ (n % 4294967296) (by omega) _ hO2).mono ?_
      rw [putR_room _ _ _ (by have := HTV.out; rw [fixB_length]; omega)]
      rintro e w3 ⟨rfl, F3, hO3, hF3, hN3⟩
      have G3 : Grew w w3 := hF3.grew G2 (fun i hi => by have := (hO2.own i hi).1; omega)
      have hO3' := Lib.hid hO3
      clear hO3 hO2 x0 x1 x2 x3 x4
      go_wp2_with fail
      refine (oout_any _ _ _ _ _ _ hO3'.out).mono ?_
      rintro e w4 ⟨v4, rfl, ho4, g4⟩
      obtain ⟨a4, n4, c4, rfl, hn4⟩ := bs_shape (Sl.of_own ho4)
      have hz3 := G3.size
      have HO4 := Lib.hid ho4
      clear ho4
      go_wp2
      go_ret2
      rw [HP.out]
      exact ⟨_, rfl, own_mono HO4.out hz3, G3.trans g4⟩
end Go.Proofs.Ytcibhkiddeggmaa
namespace Go.Proofs.Ytcibhkiddeggmaa
open Go Go.RowKit Go.Shelf
attribute [local go_sem] Oper.semAt_some

theorem putF_len {x : Fld} (hx : x.ok) : (putF x).1.length ≤ 8212 := by
  by_cases h : (putF x).2 = 0
  · obtain ⟨h1, h2, h3⟩ := putF_ok h
    obtain ⟨t1, t2, t3, t4⟩ := tmake_ok h1
    rw [h3]
    have := vput_le10 (tmake (fNum x) (fWire x)).1 t4
    have hv : (valB x).length ≤ 8202 := by
      by_cases h5 : fWire x = 2
      · exact valB_len hx (h2 h5)
      · obtain ⟨-, -, -, hn⟩ := hx
        unfold valB
        rcases wireB_or t3 with e | e | e | e
        · rw [if_pos e]; have := vput_le10 (fN x) hn; omega
        · rw [if_neg (by omega), if_pos e, fixB_length]; omega
        · exact absurd e h5
        · rw [if_neg (by omega), if_neg (by omega), if_pos e, fixB_length]; omega
    rw [List.length_append]; omega
  · unfold putF at h ⊢
    by_cases h1 : (tmake (fNum x) (fWire x)).2 ≠ 0
    · rw [if_pos h1]; simp
    rw [if_neg h1] at h ⊢
    by_cases h2 : fWire x = 2 ∧ 8192 < (fB x).length
    · rw [if_pos h2]; simp
    · rw [if_neg h2] at h; exact absurd rfl h
set_option maxRecDepth 100000 in
set_option maxHeartbeats 4000000 in
theorem skPut_any (A : List FFV) (v : Value) (w : World) (h : FlR w v A) (hok : ∀ p ∈ A, p.1.ok ∧ (fB p.1).length ≤ 100000000) (hA : A.length ≤ 1000000) :
    Calls Try.prog 23 #[v] w fun e w' => ∃ v', e = .returned (.tuple #[v', faultV (putsF 0 (A.map (·.1))).2.1 (putsF 0 (A.map (·.1))).2.2]) ∧ OwnB w' w.heap.size v' (putsF 0 (A.map (·.1))).1 ∧ Grew w w' := by
  obtain ⟨a, c, rfl, h1, h2, -, h4⟩ := h.1.open
  unfold maxLen at h2
  have ga := grew_alloc w (.cells #[.int .i64 0, .int .i64 0] 47)
  have k0 := Blk.new w 47 #[.int .i64 0, .int .i64 0]
  have HC := Lib.hid h
  have H4 := Lib.hid h4
  have HOK := Lib.hid hok
  clear h h4 hok
  go_enter Try.func23, Try.ntmps23
  go_wp2
  go_loopw [4, 11] (fun vo i wr => ∃ (k : Nat) (pre : List UInt8), k ≤ A.length ∧ i = .int .i64 k ∧ pre.length ≤ k * 8212 ∧ OwnB wr w.heap.size vo pre ∧ Blk wr w.heap.size 47 #[.int .i64 0, .int .i64 0] ∧ Grew w wr ∧ RowKit.Hid (putsF 0 (A.map (·.1)) = joinB pre (putsF k ((A.map (·.1)).drop k)))) (fun _ i _ => A.length - (intOf i).toNat)
  case atStart => exact ⟨0, [], Nat.zero_le _, rfl, Nat.zero_le _, ownB_nil _ _, k0, ga, Lib.hid (by rw [List.drop_zero]; exact (joinB_nil 0 _).symm)⟩
  case round =>
    obtain ⟨k, pre, hk, rfl, hpl, ho, hF, hG, hJ⟩ := hrel
    obtain ⟨a9, n9, c9, rfl, hn9⟩ := bs_shape (Sl.of_own ho)
    have HO := Lib.hid ho
    have HPL := Lib.hid hpl
    clear ho hpl
    by_cases hlt : k < A.length
    · obtain ⟨b, o, rfl, -⟩ := H4.out (by omega)
      obtain ⟨x0, x1, x2, x3, x4, x5⟩ := fl_cells (HC.out.grew hG) k hlt
      have hokk := HOK.out _ (List.getElem_mem hlt)
      have hdr : (A.map (·.1)).drop k = A[k].1 :: (A.map (·.1)).drop (k + 1) := by
        rw [List.drop_eq_getElem_cons (by rw [List.length_map]; exact hlt), List.getElem_map]
      have hJ2 := hJ.out
      rw [hdr] at hJ2
      obtain ⟨⟨X, xv⟩, hr⟩ : ∃ r, r = A[k] := ⟨_, rfl⟩
      rw [← hr] at x0 x1 x2 x3 x4 x5 hokk hJ2
      simp only at x0 x1 x2 x3 x4 x5 hokk hJ2
      obtain ⟨xa, xn, xc, rfl, hxn⟩ := bs_shape x5
      have gb := grew_alloc wr (.cells #[.int .i64 X.1, .int .u8 (X.2.1 : Nat), .int .u64 (X.2.2.1 : Nat), .slice xa xn xc, .int .i64 X.2.2.2.2] 81)
      have KP := Lib.hid (skput_any X _ _ hokk.1 (x5.grew gb) hokk.2)
      have HL := Lib.hid (putF_len hokk.1)
      have z1 : (k : Int) < (A.length : Int) := by omega
      have z0 : (0 : Int) ≤ (k : Int) := by omega
      have hF2 := hF.grew gb
      have hwz := hG.size
      clear hdr hr x5 hokk hJ hF
      go_wp2_with fail
      refine KP.out.mono ?_
      obtain ⟨R, hR⟩ : ∃ R, R = putF X := ⟨_, rfl⟩
      have HR := Lib.hid hR
      rw [← hR]
      rintro e w2 ⟨v2, rfl, ho2, g2⟩
      obtain ⟨b9, m9, d9, rfl, hm9⟩ := bs_shape (Sl.of_own ho2)
      have hF3 := hF2.grew g2
      have G2 := (hG.trans gb).trans g2
      have HO2 := Lib.hid ho2
      have HLR := Lib.hid (show R.1.length ≤ 8212 by rw [HR.out]; exact HL.out)
      clear hR ho2 x0 x1 x2 x3 x4 hF2
      by_cases he : R.2 ≠ 0
      · have hne : ((R.2 : Int) != 0) = true := by simp; omega
        rw [joinB_bad _ (by rw [← HR.out]; exact he), ← HR.out] at hJ2
        have HJ2 := Lib.hid hJ2
        obtain ⟨q0, q1, q2, q3⟩ := cells_of hF3
        clear he hJ2
        go_wp2
        have r1 := (hF3.set 0 (.int .i64 (R.2 : Nat))).set 1 (.int .i64 k)
        refine bodyPost_ret (results_tc rfl _ _ ⟨w.heap.size, 0, none⟩ _ _ rfl rfl (loadVar_fault _ _ _ rfl r1)) rfl ?_
        rw [HJ2.out]
        exact ⟨_, rfl, ownB_nil _ _, grew_set (grew_set G2 (Nat.le_refl _) _) (Nat.le_refl _) _⟩
      · have hne : ((R.2 : Int) != 0) = false := by simp; omega
        rw [joinB_step _ (by rw [← HR.out]; omega), ← HR.out] at hJ2
        have HJ2 := Lib.hid hJ2
        have hO3 := own_grew (own_grew HO.out gb) g2
        have HO3 := Lib.hid hO3
        clear he hJ2 hO3
        go_wp2_with (at_builtin; refine wpList_push2 rfl _ _ rfl w.heap.size _ pre rfl HO3.out _ rfl R.1 (Sl.of_own HO2.out) (by have := HPL.out; have := HLR.out; omega) G2.size ?_; intro v' w3 hown3 hB3 hgb _)
        refine ⟨⟨k + 1, pre ++ R.1, by omega, by go_num, by have := HPL.out; have := HLR.out; rw [List.length_append]; omega, hown3, hF3.kept hgb (blk_ne_row hF3 HO3.out (by decide)), Below.trans G2 hB3, HJ2⟩, ?_⟩
        simp [intOf]; omega
    · obtain rfl : k = A.length := by omega
      have hJ2 := hJ.out
      rw [List.drop_of_length_le (by rw [List.length_map]; exact Nat.le_refl _), joinB_end] at hJ2
      have HJ2 := Lib.hid hJ2
      obtain ⟨q0, q1, q2, q3⟩ := cells_of hF
      clear hJ hJ2
      go_wp2
      have r1 := (hF.set 0 (.int .i64 0)).set 1 (.int .i64 0)
      have ho9 := own_set (own_set HO.out ⟨w.heap.size, 0, none⟩ (.int .i64 0) (fun e => blk_ne_row hF HO.out (by decide) e.symm)) ⟨w.heap.size, 1, none⟩ (.int .i64 0) (fun e => blk_ne_row hF HO.out (by decide) e.symm)
      refine bodyPost_ret (results_tc rfl _ _ ⟨w.heap.size, 0, none⟩ _ _ rfl rfl (loadVar_fault _ _ _ rfl r1)) rfl ?_
      rw [HJ2.out]
      exact ⟨_, rfl, ho9, grew_set (grew_set hG (Nat.le_refl _) _) (Nat.le_refl _) _⟩
end Go.Proofs.Ytcibhkiddeggmaa
