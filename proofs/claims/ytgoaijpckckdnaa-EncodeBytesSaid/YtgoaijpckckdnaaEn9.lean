/- rescriptref10.Bytes: contract. -/
import Derived.Test.YtgoaijpckckdnaaEn7
import Derived.Test.YtgoaijpckckdnaaEn8
import Derived.Test.YtgoaijpckckdnaaVa9
namespace Go.Proofs.Ytgoaijpckckdnaa
open Go Go.RowKit Go.Shelf
attribute [local go_sem] Oper.semAt_some

set_option maxRecDepth 100000 in
set_option maxHeartbeats 8000000 in
theorem r10bytes_any (m : Msg) (a : Option Addr) (c : Nat) (ver : Int) (w : World) (hs : smallB m = true) (hn : ∀ i, i < 6 → m.n i < 18446744073709551616) (hl : Tx w (.slice a m.l.length c) m.l) :
    Calls Try.prog 34 #[.agg (msgA m (.slice a m.l.length c)), .int .i64 ver] w fun e w' => ∃ v', e = .returned (.tuple #[v', fltV (chkM m (ofKind m.k (rowsIn ver)))]) ∧ OwnB w' w.heap.size v' (msgB m (ofKind m.k (rowsIn ver))) ∧ Grew w w' := by
  have hm := small_ok hs hn
  have HM := Lib.hid hm
  have KC := Lib.hid (fun W g => rcheck9_any m (.slice a m.l.length c) ver W (okE_okM hm) (hl.grew (g : Grew w W)))
  have HL := Lib.hid hl
  have KO := Lib.hid (fun W => rof_any m.k ver W)
  have hle := ofKind_le m.k ver
  have hnm := fun r (h : r ∈ ofKind m.k (rowsIn ver)) => nm_ok h
  generalize ofKind m.k (rowsIn ver) = L at KC KO hle hnm ⊢
  have HNM := Lib.hid hnm
  have HLE := Lib.hid hle
  have KFd := Lib.hid (fun nm t sl W g => r10field_any m a c nm t sl W hs hn (hl.grew (g : Grew w W)))
  obtain ⟨W0, hW0⟩ : ∃ W0, W0 = (w.alloc (.cells (msgA m (.slice a m.l.length c)) 57)).alloc (.cells #[.int .i64 0, .int .i64 0] 27) := ⟨_, rfl⟩
  have hg0 : Grew w W0 := by rw [hW0]; exact grew2 _ _ _
  have k1 : Blk W0 w.heap.size 57 (msgA m (.slice a m.l.length c)) := by rw [hW0]; exact (Blk.new _ _ _).alloc _
  have k2 : Blk W0 (w.heap.size + 1) 27 #[.int .i64 0, .int .i64 0] := by rw [hW0]; exact Blk.new2 _ _ _ _
  have K1 := Lib.hid k1
  have K2 := Lib.hid k2
  have HG := Lib.hid hg0
  simp only [msgA] at hW0 KC KFd ⊢
  clear hl hm hle hnm k1 k2 hg0 hs hn
  go_enter Try.func34, Try.ntmps34
  go_wp2_with fail
  rw [← hW0]
  refine (KC.out _ HG.out).mono ?_
  obtain ⟨E, hE⟩ : ∃ E, E = chkM m L := ⟨_, rfl⟩
  have HE := Lib.hid hE
  rw [← hE]
  clear hE hW0
  rintro e w1 ⟨rfl, g1⟩
  simp only [fltV]
  obtain ⟨w4, hw4⟩ : ∃ w4, w4 = w1.alloc (.cells #[.int .i64 (E.1 : Nat), .int .i64 (E.2 : Nat)] 27) := ⟨_, rfl⟩
  have g4 : Grew w1 w4 := by rw [hw4]; exact grew_alloc _ _
  have kf : Blk w4 w1.heap.size 27 #[.int .i64 (E.1 : Nat), .int .i64 (E.2 : Nat)] := by rw [hw4]; exact Blk.new _ _ _
  have H4 := Lib.hid ((HG.out.trans g1).trans g4)
  have K14 := Lib.hid ((K1.out.grew g1).grew g4)
  have K24 := Lib.hid ((K2.out.grew g1).grew g4)
  have KF := Lib.hid kf
  clear g1 g4 kf
  go_upto_region 2 with (fail)
  rw [← hw4]
  clear hw4
  obtain ⟨f0, f1, -, -⟩ := cells_of KF.out
  by_cases he : E.1 ≠ 0
  · have hne : ((E.1 : Int) != 0) = true := by simp; omega
    have hmb : msgB m L = [] := by unfold msgB; rw [if_pos (by rw [← HE.out]; exact he)]
    have HMB := Lib.hid hmb
    obtain ⟨q0, q1, q2, q3⟩ := cells_of K24.out
    clear he hmb
    go_wp2
    go_region
    all_goals (
      go_wp2
      have r1 := ((K24.out.drew.set 0 (.int .i64 (E.1 : Nat))).set 1 (.int .i64 (E.2 : Nat)))
      refine bodyPost_ret (results_tc rfl _ _ ⟨w.heap.size + 1, 0, none⟩ _ _ rfl rfl (loadVar_fault _ _ _ rfl r1)) rfl ?_
      rw [HMB.out, ← HE.out]
      exact ⟨_, rfl, ownB_nil _ _, grew_set (grew_set (Grew.trans H4.out (Drew.grew ⟨1, rfl⟩)) (by omega) _) (by omega) _⟩)
  · have hne : ((E.1 : Int) != 0) = false := by simp; omega
    obtain ⟨e1, e2⟩ := E
    obtain rfl : e1 = 0 := by simpa using he
    have hE2 := chk_z (m := m) (l := L) (by rw [← HE.out])
    rw [← HE.out] at hE2
    obtain rfl : e2 = 0 := by cases hE2; rfl
    have hmb : msgB m L = (L.map (fR m)).flatten := by unfold msgB; rw [if_neg (by rw [← HE.out]; simp)]
    have HMB := Lib.hid hmb
    obtain ⟨c0, c1', c2, c3, c4, c5, c6, c7, c8, c9⟩ := mcells K14.out
    clear he hE2 hmb
    go_wp2_with fail
    refine (KO.out _).mono ?_
    rintro e w5 ⟨v5, rfl, r5, g5⟩
    obtain ⟨a5, c5', rfl, -, -, -, -⟩ := (Sl.of_own r5).open
    have H5 := Lib.hid (H4.out.trans g5)
    have K5 := Lib.hid (K14.out.grew g5)
    have K25 := Lib.hid (K24.out.grew g5)
    have R5 := Lib.hid r5
    clear c0 c1' c2 c3 c4 c5 c6 c7 c8 c9 f0 f1 r5 g5
    have hli : (L.length : Int) ≤ 40 := by have := HLE.out; omega
    go_wp2
    go_loopw [7, 9] (fun vo i wr => ∃ k : Nat, k ≤ L.length ∧ i = .int .i64 k ∧ RowKit.Hid (((L.take k).map (fR m)).flatten.length ≤ k * 8212000) ∧ OwnB wr w5.heap.size vo ((L.take k).map (fR m)).flatten ∧ Grew w5 wr) (fun _ i _ => L.length - (intOf i).toNat)
    case atStart => exact ⟨0, Nat.zero_le _, rfl, Lib.hid (Nat.zero_le _), ownB_nil _ _, Below.refl _ _⟩
    case round =>
      obtain ⟨k, hk, rfl, hpl, ho, hG⟩ := hrel
      obtain ⟨a9, n9, c9, rfl, hn9⟩ := bs_shape (Sl.of_own ho)
      have HO := Lib.hid ho
      have HGR := Lib.hid hG
      clear ho
      by_cases hlt : k < L.length
      · obtain ⟨a', c', e, -, -, -, hcc⟩ := (Sl.of_own R5.out).open
        cases e
        obtain ⟨b, o, rfl, hcl5⟩ := hcc (by omega)
        have hf := fun j hj => flat_get (f := specV) (k := 3) (fun _ => rfl) L k hlt j hj
        have z0 := hcl5 _ _ (hf 0 (by omega))
        have z1 := hcl5 _ _ (hf 1 (by omega))
        have z2 := hcl5 _ _ (hf 2 (by omega))
        simp only [Nat.add_zero, ← Nat.add_assoc] at z0 z1 z2
        have hnx : ((L.take (k + 1)).map (fR m)).flatten = ((L.take k).map (fR m)).flatten ++ fR m L[k] := by rw [List.take_succ_eq_append_getElem hlt, List.map_append, List.flatten_append]; show _ ++ (_ ++ []) = _; rw [List.append_nil]
        have hnm : ((L[k]).2.1 : Int) ≤ 9223372036854775807 := HNM.out _ (List.getElem_mem hlt)
        generalize L[k] = r at z0 z1 z2 hnx hnm
        obtain ⟨kd, nm, ty, sl, si⟩ := r
        have HX : RowKit.Hid (∀ W, Grew w5 W → W.cell? ⟨b, o + k * 3, none⟩ = some (.int .i64 nm) ∧ W.cell? ⟨b, o + k * 3 + 1, none⟩ = some (.int .i64 ty) ∧ W.cell? ⟨b, o + k * 3 + 2, none⟩ = some (.int .i64 sl)) := Lib.hid fun W g => ⟨(below_ext g) _ _ z0, (below_ext g) _ _ z1, (below_ext g) _ _ z2⟩
        clear z0 z1 z2 hcl5
        have KF1 := Lib.hid (fun W g => KFd.out nm ty sl W g)
        have HLN := Lib.hid (fieldF_len (t := (ty : Int)) (sl := (sl : Int)) HM.out ⟨by omega, hnm⟩)
        have HNX := Lib.hid hnx
        have zi : (k : Int) < (L.length : Int) := by omega
        clear hf hcc hnx hnm hG
        go_upto_region 9 with (fail)
        refine wp_region_held_drew (S := fun W => Grew w5 W) (by kernel_rfl) (Grew.trans HGR.out (Drew.grew ⟨1, rfl⟩)) (fun hHeld => ?_)
        refine wpAnyH_take (i := 0) (oi := _) (v := ?_) rfl (by kernel_rfl) (by kernel_rfl) (by kernel_rfl) (fun _ _ _ h => h) (Or.inl ⟨by rfl, ?_⟩) (by assumption) ?_
        rotate_left
        · (intro W hSw; obtain ⟨c0, c1', c2, c3, c4, c5, c6, c7, c8, c9'⟩ := mcells (K5.out.grew hSw); have y0 := HX.out W hSw; obtain ⟨y0, y1, y2⟩ := y0; go_simp; try with_reducible rfl)
        simp only [Act.put, List.setIfInBounds_toArray]
        refine wpAnyH_take (i := 1) (oi := _) (v := ?_) rfl (by kernel_rfl) (by kernel_rfl) (by kernel_rfl) (fun _ _ _ h => h) (Or.inl ⟨by rfl, ?_⟩) (by assumption) ?_
        rotate_left
        · (intro W hSw; obtain ⟨c0, c1', c2, c3, c4, c5, c6, c7, c8, c9'⟩ := mcells (K5.out.grew hSw); have y0 := HX.out W hSw; obtain ⟨y0, y1, y2⟩ := y0; go_simp; try with_reducible rfl)
        simp only [Act.put]
        refine wpAnyH_take (i := 2) (oi := _) (v := ?_) rfl (by kernel_rfl) (by kernel_rfl) (by kernel_rfl) (fun _ _ _ h => h) (Or.inl ⟨by rfl, ?_⟩) (by assumption) ?_
        rotate_left
        · (intro W hSw; obtain ⟨c0, c1', c2, c3, c4, c5, c6, c7, c8, c9'⟩ := mcells (K5.out.grew hSw); have y0 := HX.out W hSw; obtain ⟨y0, y1, y2⟩ := y0; go_simp; try with_reducible rfl)
        simp only [Act.put]
        refine wpAnyH_take (i := 3) (oi := _) (v := ?_) rfl (by kernel_rfl) (by kernel_rfl) (by kernel_rfl) (fun _ _ _ h => h) (Or.inl ⟨by rfl, ?_⟩) (by assumption) ?_
        rotate_left
        · (intro W hSw; obtain ⟨c0, c1', c2, c3, c4, c5, c6, c7, c8, c9'⟩ := mcells (K5.out.grew hSw); have y0 := HX.out W hSw; obtain ⟨y0, y1, y2⟩ := y0; go_simp; try with_reducible rfl)
        simp only [Act.put]
        refine wpAnyH_take (i := 4) (oi := _) (v := ?_) rfl (by kernel_rfl) (by kernel_rfl) (by kernel_rfl) (fun _ _ _ h => h) (Or.inl ⟨by rfl, ?_⟩) (by assumption) ?_
        rotate_left
        · (intro W hSw; obtain ⟨c0, c1', c2, c3, c4, c5, c6, c7, c8, c9'⟩ := mcells (K5.out.grew hSw); have y0 := HX.out W hSw; obtain ⟨y0, y1, y2⟩ := y0; go_simp; try with_reducible rfl)
        simp only [Act.put]
        refine wpAnyH_take (i := 5) (oi := _) (v := ?_) rfl (by kernel_rfl) (by kernel_rfl) (by kernel_rfl) (fun _ _ _ h => h) (Or.inl ⟨by rfl, ?_⟩) (by assumption) ?_
        rotate_left
        · (intro W hSw; obtain ⟨c0, c1', c2, c3, c4, c5, c6, c7, c8, c9'⟩ := mcells (K5.out.grew hSw); have y0 := HX.out W hSw; obtain ⟨y0, y1, y2⟩ := y0; go_simp; try with_reducible rfl)
        simp only [Act.put]
        refine wpAnyH_ready (rs := [6]) (by kernel_rfl) (by simp) ?_
        refine AllReadyH.cons (o := _) rfl (fun K hK => ?_) AllReadyH.nil
        go_simp
        have gd : Grew wr wr.drew := Drew.grew ⟨1, rfl⟩
        refine (KF1.out _ ((H5.out.trans HGR.out).trans gd)).mono ?_
        have HLN2 := Lib.hid (show (fR m (kd, nm, ty, sl, si)).length ≤ 8212000 from HLN.out)
        rintro e w6 ⟨v6, rfl, ho6, g6⟩
        replace ho6 : OwnB w6 _ v6 (fR m (kd, nm, ty, sl, si)) := ho6
        obtain ⟨a6, n6, c6, rfl, hn6⟩ := bs_shape (Sl.of_own ho6)
        generalize fR m (kd, nm, ty, sl, si) = X at HLN2 HNX ho6
        have H6 := Lib.hid ((HGR.out.trans gd).trans g6)
        have KJ := Lib.hid (join_any ((L.take k).map (fR m)).flatten X _ _ w6 (Sl.of_own (own_grew HO.out (gd.trans g6))) (Sl.of_own ho6) (by have := hpl.out; have := HLN2.out; have := HLE.out; omega))
        have HSZ := Lib.hid H6.out.size
        clear ho6 g6 gd KF1 HLN hHeld
        go_simp
        refine hK.out _ _ H6.out (fun _ => ?_)
        clear hK K
        (try simp only [Act.put, List.setIfInBounds_toArray, List.set_cons_zero, List.set_cons_succ])
        refine wpAnyH_ready (rs := [7]) (by kernel_rfl) (by simp) ?_
        refine AllReadyH.cons (o := _) rfl (fun K hK => ?_) AllReadyH.nil
        go_simp
        refine KJ.out.mono ?_
        rintro e w7 ⟨v7, rfl, ho7, g7⟩
        obtain ⟨a7, n7, c7, rfl, hn7⟩ := bs_shape (Sl.of_own ho7)
        have HO7 := Lib.hid (own_mono (base' := w5.heap.size) ho7 HSZ.out)
        have hg7 : Grew w5 w7 := Grew.trans H6.out g7
        clear ho7
        go_simp
        refine hK.out _ _ hg7 (fun _ => ?_)
        clear hK K
        (try simp only [Act.put, List.setIfInBounds_toArray, List.set_cons_zero, List.set_cons_succ])
        refine wpAnyH_take (i := 8) (oi := _) (v := ?_) rfl (by kernel_rfl) (by kernel_rfl) (by kernel_rfl) (fun _ _ _ h => h) (Or.inl ⟨by rfl, ?_⟩) (by assumption) ?_
        rotate_left
        · (intro W hSw; go_simp; try with_reducible rfl)
        simp only [Act.put]
        refine wpAnyH_done (by kernel_rfl) ?_ _
        go_wp2
        refine ⟨⟨k + 1, by omega, by go_num, Lib.hid (by rw [HNX.out, List.length_append]; have := hpl.out; have := HLN2.out; omega), by rw [HNX.out]; exact HO7.out, hg7⟩, ?_⟩
        simp [intOf]; omega
      · obtain rfl : k = L.length := by omega
        have ho9 := HO.out
        rw [List.take_length, ← HMB.out] at ho9
        have KE := Lib.hid (K25.out.grew hG)
        have HO9 := Lib.hid (own_mono (base' := w.heap.size) ho9 H5.out.size)
        obtain ⟨q0, q1, q2, q3⟩ := cells_of KE.out
        clear ho9
        go_wp2
        have r1 := (KE.out.set 0 (.int .i64 0)).set 1 (.int .i64 0)
        have ho10 := own_set (own_set HO9.out ⟨w.heap.size + 1, 0, none⟩ (.int .i64 0) (fun e => blk_ne_row KE.out HO9.out (by decide) e.symm)) ⟨w.heap.size + 1, 1, none⟩ (.int .i64 0) (fun e => blk_ne_row KE.out HO9.out (by decide) e.symm)
        refine bodyPost_ret (results_tc rfl _ _ ⟨w.heap.size + 1, 0, none⟩ _ _ rfl rfl (loadVar_fault _ _ _ rfl r1)) rfl ?_
        rw [← HE.out]
        exact ⟨_, rfl, ho10, grew_set (grew_set (Grew.trans H5.out hG) (by omega) _) (by omega) _⟩
end Go.Proofs.Ytgoaijpckckdnaa
