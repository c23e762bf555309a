/- rescriptref06.Put: contract. -/
import Derived.Test.YtgoaijpckckdnaaSkV
import Derived.Test.YtgoaijpckckdnaaGrw
namespace Go.Proofs.Ytgoaijpckckdnaa
open Go Go.RowKit Go.Shelf
attribute [local go_sem] Oper.semAt_some

set_option maxRecDepth 100000 in
set_option maxHeartbeats 8000000 in
theorem r06put_any (A : List FFV) (v : Value) (w : World) (h : FlR w v A) (hok : ∀ p ∈ A, p.1.ok ∧ (fB p.1).length ≤ 100000000) (hA : A.length ≤ 1000000) :
    Calls Try.prog 24 #[v] w fun e w' => ∃ v', e = .returned (.tuple #[v', faultV (putsF 0 (A.map (·.1))).2.1 (putsF 0 (A.map (·.1))).2.2]) ∧ OwnB w' w.heap.size v' (putsF 0 (A.map (·.1))).1 ∧ Grew w w' := by
  obtain ⟨a, c, rfl, h1, h2, -, h4⟩ := h.1.open
  unfold maxLen at h2
  have ga := grew_alloc w (.cells #[.int .i64 0, .int .i64 0] 27)
  have k0 := Blk.new w 27 #[.int .i64 0, .int .i64 0]
  have HC := Lib.hid h
  have H4 := Lib.hid h4
  have HOK := Lib.hid hok
  clear h h4 hok
  go_enter Try.func24, Try.ntmps24
  go_wp2
  go_loopw [4, 5] (fun vo i wr => ∃ (k : Nat) (pre : List UInt8), k ≤ A.length ∧ i = .int .i64 k ∧ pre.length ≤ k * 8212 ∧ OwnB wr w.heap.size vo pre ∧ Blk wr w.heap.size 27 #[.int .i64 0, .int .i64 0] ∧ Grew w wr ∧ RowKit.Hid (putsF 0 (A.map (·.1)) = joinB pre (putsF k ((A.map (·.1)).drop k)))) (fun _ i _ => A.length - (intOf i).toNat)
  case atStart => exact ⟨0, [], Nat.zero_le _, rfl, Nat.zero_le _, ownB_nil _ _, k0, ga, Lib.hid (by rw [List.drop_zero]; exact (joinB_nil 0 _).symm)⟩
  case round =>
    obtain ⟨k, pre, hk, rfl, hpl, ho, hF, hG, hJ⟩ := hrel
    obtain ⟨a9, n9, c9, rfl, hn9⟩ := bs_shape (Sl.of_own ho)
    have HO := Lib.hid ho
    have HPL := Lib.hid hpl
    clear ho hpl
    by_cases hlt : k < A.length
    · obtain ⟨b, o, rfl, -⟩ := H4.out (by omega)
      obtain ⟨x0, x1, x2, x3, x4, x5⟩ := fl_cells (HC.out.grew hG) k hlt
      have hokk := HOK.out _ (List.getElem_mem hlt)
      have hdr : (A.map (·.1)).drop k = A[k].1 :: (A.map (·.1)).drop (k + 1) := by
        rw [List.drop_eq_getElem_cons (by rw [List.length_map]; exact hlt), List.getElem_map]
      have hJ2 := hJ.out
      rw [hdr] at hJ2
      obtain ⟨⟨X, xv⟩, hr⟩ : ∃ r, r = A[k] := ⟨_, rfl⟩
      rw [← hr] at x0 x1 x2 x3 x4 x5 hokk hJ2
      simp only at x0 x1 x2 x3 x4 x5 hokk hJ2
      obtain ⟨xa, xn, xc, rfl, hxn⟩ := bs_shape x5
      have CX := Lib.hid (fun W (hW : Grew wr W) => And.intro (below_ext hW _ _ x0) (And.intro (below_ext hW _ _ x1) (And.intro (below_ext hW _ _ x2) (And.intro (below_ext hW _ _ x3) (below_ext hW _ _ x4)))))
      have HX5 := Lib.hid x5
      have KM := Lib.hid (fun W => rmake_any X.1 X.2.1 hokk.1.1 hokk.1.2.1 hokk.1.2.2.1 W)
      obtain ⟨T, hT⟩ : ∃ T, T = tmake X.1 X.2.1 := ⟨_, rfl⟩
      have HT := Lib.hid hT
      rw [← hT] at KM
      have HL := Lib.hid (putF_len hokk.1)
      have HK := Lib.hid hokk
      have z1 : (k : Int) < (A.length : Int) := by omega
      have z0 : (0 : Int) ≤ (k : Int) := by omega
      have hwz := hG.size
      clear hdr hr x5 hokk hJ x0 x1 x2 x3 x4 hT
      go_wp2
      refine wp_region_grew wr (Below.refl _ _) (by kernel_rfl) (by kernel_rfl) ?_
      repeat (
        first
          | go_big_quiet_skip
          | (go_big_quiet_want; go_big_quiet_op; go_big_quiet_on)
          | (refine BigFrame.wpQuiet_want (by kernel_rfl) (fun K hK => ?_)
             apply Exists.intro
             apply And.intro
             · intro W hW
               obtain ⟨j0, j1, j2, j3, j4⟩ := CX.out W hW.out
               go_simp
               first
                 | done
                 | rfl
                 | with_reducible exact q_calls hW (KM.out W) (fun e w' h => ⟨h.1, by rw [← h.2]; exact Below.refl _ _⟩)
             refine hK _ ?_
             clear hK K)
        try simp only [Act.put, List.setIfInBounds_toArray, List.set_cons_zero, List.set_cons_succ])
      refine wpQuiet_nil ?_
      intro w2 g2
      have hF2 := hF.grew g2.out
      have G2 := hG.trans g2.out
      obtain ⟨j0, j1, j2, j3, j4⟩ := CX.out w2 g2.out
      obtain ⟨q0, q1, q2, q3⟩ := cells_of hF2
      by_cases he : T.2 ≠ 0
      · have hne : ((T.2 : Int) != 0) = true := by simp; omega
        have HPF := Lib.hid (show putF X = ([], T.2) by unfold putF; simp only [fNum, fWire]; rw [← HT.out, if_pos he])
        rw [joinB_bad _ (by rw [HPF.out]; exact he), HPF.out] at hJ2
        have HJ2 := Lib.hid hJ2
        clear he hJ2 CX KM
        go_wp2
        have r1 := (hF2.set 0 (.int .i64 (T.2 : Nat))).set 1 (.int .i64 k)
        refine bodyPost_ret (results_tc rfl _ _ ⟨w.heap.size, 0, none⟩ _ _ rfl rfl (loadVar_fault _ _ _ rfl r1)) rfl ?_
        rw [HJ2.out]
        exact ⟨_, rfl, ownB_nil _ _, grew_set (grew_set G2 (Nat.le_refl _) _) (Nat.le_refl _) _⟩
      have hne : ((T.2 : Int) != 0) = false := by simp; omega
      have HE := Lib.hid he
      clear he CX KM
      by_cases h2w : X.2.1 = 2
      · have hq : ((X.2.1 : Int) == 2) = true := by simp; omega
        have H2W := Lib.hid h2w
        have hxn' : RowKit.Hid (xn = (fB X).length) := hxn
        by_cases hbig : 8192 < xn
        · have HPF := Lib.hid (show putF X = ([], 2) by unfold putF; simp only [fNum, fWire]; rw [← HT.out, if_neg HE.out, if_pos ⟨h2w, by have := hxn'.out; omega⟩])
          have hd : decide ((xn : Int) > 8192) = true := by simp; omega
          rw [joinB_bad _ (by rw [HPF.out]; simp), HPF.out] at hJ2
          have HJ2 := Lib.hid hJ2
          clear hJ2 h2w hbig
          go_wp2
          have r1 := (hF2.set 0 (.int .i64 2)).set 1 (.int .i64 k)
          refine bodyPost_ret (results_tc rfl _ _ ⟨w.heap.size, 0, none⟩ _ _ rfl rfl (loadVar_fault _ _ _ rfl r1)) rfl ?_
          rw [HJ2.out]
          exact ⟨_, rfl, ownB_nil _ _, grew_set (grew_set G2 (Nat.le_refl _) _) (Nat.le_refl _) _⟩
        · have hd : decide ((xn : Int) > 8192) = false := by simp; omega
          have HS := Lib.hid (show ¬ (X.2.1 = 2 ∧ 8192 < (fB X).length) by rintro ⟨-, h⟩; have := hxn'.out; omega)
          clear hbig h2w
          have HPF := Lib.hid (show putF X = (vput T.1 ++ valB X, 0) by unfold putF; simp only [fNum, fWire, fB]; rw [← HT.out, if_neg HE.out, if_neg HS.out])
          have hJ3 := hJ2
          rw [joinB_step _ (by rw [HPF.out]), HPF.out] at hJ3
          have HJ3 := Lib.hid hJ3
          have kb := r06bytes_any X _ w2 HK.out.1 (by simp only [fNum, fWire]; rw [← HT.out]; have := HE.out; omega) (HX5.out.grew g2.out) HK.out.2
          simp only [fNum, fWire] at kb
          rw [← HT.out] at kb
          have hlen : (vput T.1 ++ valB X).length ≤ 8212 := by have := HL.out; rw [HPF.out] at this; exact this
          obtain ⟨L, hL⟩ : ∃ L, L = vput T.1 ++ valB X := ⟨_, rfl⟩
          rw [← hL] at kb hlen hJ3
          have HJ4 := Lib.hid hJ3
          have HLL := Lib.hid hlen
          have KB := Lib.hid kb
          clear kb hL hlen hJ2 hJ3 HJ3
          go_wp2_with fail
          refine KB.out.mono ?_
          rintro e w3 ⟨v3, rfl, ho3, g3⟩
          obtain ⟨b9, m9, d9, rfl, hm9⟩ := bs_shape (Sl.of_own ho3)
          have kj := join_any pre L _ _ w3 (Sl.of_own (own_grew (own_grew HO.out g2.out) g3)) (Sl.of_own ho3) (by have := HPL.out; have := HLL.out; omega)
          have KJ := Lib.hid kj
          clear kj ho3
          go_wp2_with fail
          refine KJ.out.mono ?_
          rintro e w4 ⟨v4, rfl, ho4, g4⟩
          obtain ⟨e9, n4, f9, rfl, hm4⟩ := bs_shape (Sl.of_own ho4)
          have HO4 := Lib.hid ho4
          have G4 := (G2.trans g3).trans g4
          clear ho4
          go_wp2
          refine ⟨⟨k + 1, pre ++ L, by omega, by go_num, by have := HPL.out; have := HLL.out; rw [List.length_append]; omega, own_mono HO4.out (G2.trans g3).size, (hF2.grew g3).grew g4, G4, HJ4.out⟩, ?_⟩
          simp [intOf]; omega
      · have hq : ((X.2.1 : Int) == 2) = false := by simp; omega
        have HS := Lib.hid (show ¬ (X.2.1 = 2 ∧ 8192 < (fB X).length) by rintro ⟨h, -⟩; exact h2w h)
        clear h2w
        have HPF := Lib.hid (show putF X = (vput T.1 ++ valB X, 0) by unfold putF; simp only [fNum, fWire, fB]; rw [← HT.out, if_neg HE.out, if_neg HS.out])
        have hJ3 := hJ2
        rw [joinB_step _ (by rw [HPF.out]), HPF.out] at hJ3
        have HJ3 := Lib.hid hJ3
        have kb := r06bytes_any X _ w2 HK.out.1 (by simp only [fNum, fWire]; rw [← HT.out]; have := HE.out; omega) (HX5.out.grew g2.out) HK.out.2
        simp only [fNum, fWire] at kb
        rw [← HT.out] at kb
        have hlen : (vput T.1 ++ valB X).length ≤ 8212 := by have := HL.out; rw [HPF.out] at this; exact this
        obtain ⟨L, hL⟩ : ∃ L, L = vput T.1 ++ valB X := ⟨_, rfl⟩
        rw [← hL] at kb hlen hJ3
        have HJ4 := Lib.hid hJ3
        have HLL := Lib.hid hlen
        have KB := Lib.hid kb
        clear kb hL hlen hJ2 hJ3 HJ3
        go_wp2_with fail
        refine KB.out.mono ?_
        rintro e w3 ⟨v3, rfl, ho3, g3⟩
        obtain ⟨b9, m9, d9, rfl, hm9⟩ := bs_shape (Sl.of_own ho3)
        have kj := join_any pre L _ _ w3 (Sl.of_own (own_grew (own_grew HO.out g2.out) g3)) (Sl.of_own ho3) (by have := HPL.out; have := HLL.out; omega)
        have KJ := Lib.hid kj
        clear kj ho3
        go_wp2_with fail
        refine KJ.out.mono ?_
        rintro e w4 ⟨v4, rfl, ho4, g4⟩
        obtain ⟨e9, n4, f9, rfl, hm4⟩ := bs_shape (Sl.of_own ho4)
        have HO4 := Lib.hid ho4
        have G4 := (G2.trans g3).trans g4
        clear ho4
        go_wp2
        refine ⟨⟨k + 1, pre ++ L, by omega, by go_num, by have := HPL.out; have := HLL.out; rw [List.length_append]; omega, own_mono HO4.out (G2.trans g3).size, (hF2.grew g3).grew g4, G4, HJ4.out⟩, ?_⟩
        simp [intOf]; omega
    · obtain rfl : k = A.length := by omega
      have hJ2 := hJ.out
      rw [List.drop_of_length_le (by rw [List.length_map]; exact Nat.le_refl _), joinB_end] at hJ2
      have HJ2 := Lib.hid hJ2
      obtain ⟨q0, q1, q2, q3⟩ := cells_of hF
      clear hJ hJ2
      go_wp2
      have r1 := (hF.set 0 (.int .i64 0)).set 1 (.int .i64 0)
      have ho9 := own_set (own_set HO.out ⟨w.heap.size, 0, none⟩ (.int .i64 0) (fun e => blk_ne_row hF HO.out (by decide) e.symm)) ⟨w.heap.size, 1, none⟩ (.int .i64 0) (fun e => blk_ne_row hF HO.out (by decide) e.symm)
      refine bodyPost_ret (results_tc rfl _ _ ⟨w.heap.size, 0, none⟩ _ _ rfl rfl (loadVar_fault _ _ _ rfl r1)) rfl ?_
      rw [HJ2.out]
      exact ⟨_, rfl, ho9, grew_set (grew_set hG (Nat.le_refl _) _) (Nat.le_refl _) _⟩
end Go.Proofs.Ytgoaijpckckdnaa
