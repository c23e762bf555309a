/- rescriptref11.Unknown: contract. -/
import Derived.Test.YtbjoohafgkodcaaWl7
namespace Go.Proofs.Ytbjoohafgkodcaa
open Go Go.RowKit Go.Shelf
attribute [local go_sem] Oper.semAt_some

set_option maxRecDepth 100000 in
set_option maxHeartbeats 8000000 in
theorem runknown_any (k : Nat) (ver : Int) (l : List UInt8) (v : Value) (w : World) (hb : Bs w v l) (hlen : l.length ≤ 1000000) :
    Calls Try.prog 17 #[.int .u8 k, .int .i64 ver, v] w (UnkP k ver l w) := by
  obtain ⟨a, c, rfl⟩ := bs_len hb
  obtain ⟨W0, hW0⟩ : ∃ W0, W0 = w.alloc (.cells #[.int .i64 0, .int .i64 0] 32) := ⟨_, rfl⟩
  have g0 : Grew w W0 := by rw [hW0]; exact (Below.refl _ _).alloc (Nat.le_refl _) _
  have k1 : Blk W0 w.heap.size 32 #[.int .i64 0, .int .i64 0] := by rw [hW0]; exact Blk.new _ _ _
  have G0 := Lib.hid g0
  have K1 := Lib.hid k1
  have HB := Lib.hid hb
  have KR := Lib.hid (rdecode_any k ver l _ W0 (hb.grew g0) hlen)
  obtain ⟨D, hD⟩ : ∃ D, D = decM k ver l := ⟨_, rfl⟩
  unfold DecP at KR
  rw [← hD] at KR
  have HD := Lib.hid hD
  clear g0 k1 hb hD
  go_enter Try.func17, Try.ntmps17
  go_wp2_with fail
  rw [← hW0]
  clear hW0
  refine KR.out.mono ?_
  rintro e w1 ⟨lv, rfl, ho, g1⟩
  obtain ⟨al, cl, rfl⟩ := tx_len (Sl.of_own ho)
  obtain ⟨wa, hwa⟩ : ∃ wa, wa = (w1.alloc (.cells (msgA D.1 (.slice al D.1.l.length cl)) 29)).alloc (.cells #[.int .i64 (D.2.1 : Nat), .int .i64 D.2.2] 32) := ⟨_, rfl⟩
  have ga : Grew w1 wa := by rw [hwa]; exact ((Below.refl _ _).alloc (Nat.le_refl _) _).alloc (by simp) _
  have kb : Blk wa (w1.heap.size + 1) 32 #[.int .i64 (D.2.1 : Nat), .int .i64 D.2.2] := by rw [hwa]; exact Blk.at (by simp)
  have B1 := Lib.hid ((K1.out.grew g1).grew ga)
  have KB := Lib.hid kb
  have GA := Lib.hid ((G0.out.trans g1).trans ga)
  have hz1 : w.heap.size < w1.heap.size := (K1.out.grew g1).lt
  simp only [fltI]
  simp only [msgA] at hwa ⊢
  have HWA := Lib.hid hwa
  obtain ⟨d0, d1, d2, d3⟩ := cells_of kb
  rw [hwa] at d0 d1 d2 d3
  clear ga kb ho g1 hwa
  by_cases he : D.2.1 ≠ 0
  · have qe : ((D.2.1 : Int) != 0) = true := by simp; omega
    have HE := Lib.hid he
    clear he
    go_upto_region 3 with (fail)
    rw [← HWA.out]
    refine wp_region_heldN (S := fun V => Blk V (w1.heap.size + 1) 32 #[.int .i64 (D.2.1 : Nat), .int .i64 D.2.2]) (by kernel_rfl) KB.out.drew (fun hHeld => ?_)
    refine wpAnyH_take (i := 0) (oi := ⟨some 26, _, _, _, _, _⟩) (v := .agg #[.int .i64 (D.2.1 : Nat), .int .i64 D.2.2]) rfl (by kernel_rfl) (by kernel_rfl) (by kernel_rfl) (fun _ _ _ h => h) (y_row 32 _ rfl (w1.heap.size + 1) rfl 32 _ _ (fun V h => h) Try.underlying32 rfl (by kernel_rfl) rfl) (by assumption) ?_
    simp only [Act.put, List.setIfInBounds_toArray, List.set_cons_zero, List.set_cons_succ]
    refine wpAnyH_take (i := 1) (oi := ⟨some 6, _, _, _, _, _⟩) (v := .slice none 0 0) rfl (by kernel_rfl) (by kernel_rfl) (by kernel_rfl) (fun _ _ _ h => h) (Or.inl ⟨by rfl, ?_⟩) (by assumption) ?_
    · intro V hV
      go_simp
      try rfl
    simp only [Act.put, List.setIfInBounds_toArray, List.set_cons_zero, List.set_cons_succ]
    refine wpAnyH_ready (rs := [2]) (by kernel_rfl) (by simp) ?_
    refine AllReadyH.cons (o := _) rfl (fun K hK => ?_) AllReadyH.nil
    refine wp_store_pair 32 _ _ rfl w.heap.size _ _ rfl rfl 32 _ B1.out.drew (by kernel_rfl) rfl rfl rfl ?_
    refine hK.out _ _ (hHeld.rowOther (by omega)) (fun _ => ?_)
    clear hK K hHeld
    simp only [Act.put]
    refine wpAnyH_done (by kernel_rfl) ?_ _
    have R1 := Lib.hid (B1.out.drew.row #[.int .i64 (D.2.1 : Nat), .int .i64 D.2.2])
    have R3 := Lib.hid (below_setRow (GA.out.trans (Drew.grew ⟨1, rfl⟩ : Grew _ wa.drew)) (Nat.le_refl _) #[.int .i64 (D.2.1 : Nat), .int .i64 D.2.2])
    have HU := Lib.hid (show unkM k ver l = ([], D.2) by unfold unkM; rw [← HD.out, if_pos HE.out])
    simp only [onlyN]
    go_wp2
    refine bodyPost_ret (results_tc rfl _ _ _ _ _ rfl rfl (loadVar_fltI _ _ _ _ R1.out)) rfl ?_
    refine ⟨.slice none 0 0, by rw [HU.out]; rfl, by rw [HU.out]; exact FlO.nil _ _, R3.out⟩
  have he0 : D.2.1 = 0 := by omega
  have HE0 := Lib.hid (show (decM k ver l).2.1 = 0 by rw [← HD.out]; exact he0)
  have qe : ((D.2.1 : Int) != 0) = false := by simp; omega
  have HB1 := Lib.hid (HB.out.grew GA.out)
  have KFS := Lib.hid (r06fields_any l _ _ HB1.out (by omega))
  have hfz : (fieldsR l).2.1 = 0 := by
    refine Classical.byContradiction fun h => ?_
    have h0 := HE0.out
    unfold decM at h0
    split at h0
    · simp at h0
    split at h0
    · simp at h0
    exact h h0
  have HFZ := Lib.hid hfz
  obtain ⟨F, hF⟩ : ∃ F, F = fieldsR l := ⟨_, rfl⟩
  rw [← hF] at KFS
  have HF := Lib.hid hF
  clear he he0 hfz hF
  go_wp2_with fail
  rw [← HWA.out]
  refine KFS.out.mono ?_
  rintro e w2 ⟨v2, rfl, ⟨ps, hps, hfv⟩, g2⟩
  obtain ⟨a2, c2, rfl, -, -, -, -⟩ := hfv.flr.1.open
  obtain ⟨wd, hwd⟩ : ∃ wd, wd = w2.alloc (.cells #[.int .i64 (F.2.1 : Nat), .int .i64 (F.2.2 : Nat)] 32) := ⟨_, rfl⟩
  have gd : Grew w2 wd := by rw [hwd]; exact grew_alloc _ _
  have B2 := Lib.hid ((B1.out.grew g2).grew gd)
  have G2 := Lib.hid ((GA.out.trans g2).trans gd)
  have HFV := Lib.hid ((hfv.grew gd).mono (show w.heap.size ≤ wa.heap.size from GA.out.size))
  have HPS := Lib.hid hps
  have HPL := Lib.hid (show ps.length ≤ 1000000 by have h := fieldsR_len l; rw [← HF.out, ← hps, List.length_map] at h; omega)
  have HVB := Lib.hid (own_lt (own_grew hfv.1 gd))
  have HWD := Lib.hid hwd
  clear gd g2 hfv hps hwd d0 d1 d2 d3 KFS
  simp only [faultV]
  go_upto_block 0 with fail
  rw [← HWD.out]
  go_wp2
  go_loopw [12, 13] (fun vo i wr => ∃ q : Nat, q ≤ ps.length ∧ i = .int .i64 q ∧ Blk wr w.heap.size 32 #[.int .i64 0, .int .i64 0] ∧ FieldsV wr w.heap.size (.slice a2 ps.length c2) ps ∧ OwnF wr wd.heap.size vo ((ps.take q).filter fun p => !okP k ver p.1) ∧ Grew w wr ∧ wd.heap.size ≤ wr.heap.size) (fun _ i _ => ps.length - (intOf i).toNat)
  case atStart => exact ⟨0, Nat.zero_le _, rfl, B2.out, HFV.out, World.ownsRow_nil _ _ _ _, G2.out, Nat.le_refl _⟩
  case round =>
    obtain ⟨q, hq, rfl, h1, h7, h6, h8, hwz⟩ := hrel
    obtain ⟨P, hP⟩ : ∃ P, P = (ps.take q).filter fun p => !okP k ver p.1 := ⟨_, rfl⟩
    rw [← hP] at h6
    have HP := Lib.hid hP
    have hPl : P.length ≤ q := by rw [hP]; refine Nat.le_trans (List.length_filter_le _ _) (by simp; omega)
    obtain ⟨a9, n9, c9, rfl, -⟩ : ∃ a n c, u12 = .slice a n c ∧ True := by obtain ⟨a, c, e, _⟩ := (Sl.of_own h6).open; exact ⟨a, _, c, e, trivial⟩
    have H1 := Lib.hid h1
    have H7 := Lib.hid h7
    have H6 := Lib.hid h6
    have H8 := Lib.hid h8
    have hpl8 : ps.length ≤ 1000000 := HPL.out
    clear h1 h7 h6 h8 hP
    by_cases hlt : q < ps.length
    · obtain ⟨a', c', e, -, -, -, hcc⟩ := H7.out.flr.1.open
      cases e
      obtain ⟨b, o, rfl, -⟩ := hcc (by omega)
      obtain ⟨x0, x1, x2, x3, x4, x5⟩ := fl_cells H7.out.flr q hlt
      have hts : ps.take (q + 1) = ps.take q ++ [ps[q]] := List.take_succ_eq_append_getElem hlt
      generalize hr : ps[q] = p at x0 x1 x2 x3 x4 x5 hts
      obtain ⟨X, xv⟩ := p
      simp only at x0 x1 x2 x3 x4 x5
      obtain ⟨xa, xc, rfl⟩ := bs_len x5
      have HTS := Lib.hid hts
      have HX5 := Lib.hid x5
      have HXC := Lib.hid (And.intro x0 (And.intro x1 (And.intro x2 (And.intro x3 x4))))
      have KBE := Lib.hid (belongs_any k ver X _ wr x5)
      have zi : (q : Int) < (ps.length : Int) := by omega
      have z0 : (0 : Int) ≤ (q : Int) := by omega
      clear hr hts x5 hcc
      go_wp2_with fail
      refine KBE.out.mono ?_
      rintro e w3 ⟨rfl, g3⟩
      obtain ⟨wb, hwb⟩ : ∃ wb, wb = w3.alloc (.cells #[.int .i64 (spN (finR k ver X)), .int .i64 (spT (finR k ver X)), .int .i64 (spS (finR k ver X))] 42) := ⟨_, rfl⟩
      have gb : Grew w3 wb := by rw [hwb]; exact grew_alloc _ _
      have GB := Lib.hid (g3.trans gb)
      have HWB := Lib.hid hwb
      have hgs := (g3.trans gb).size
      clear x0 x1 x2 x3 x4 g3 gb KBE
      cases hok : okP k ver X with
      | true =>
        have HOK := Lib.hid hok
        clear hok hwb
        go_wp2
        rw [← HWB.out]
        refine ⟨⟨q + 1, by omega, by go_num, H1.out.grew GB.out, H7.out.grew GB.out, ?_, H8.out.trans GB.out, by omega⟩, ?_⟩
        · rw [HTS.out, List.filter_append, ← HP.out]
          have e1 : [(X, Value.slice xa (fB X).length xc)].filter (fun p : FFV => !okP k ver p.1) = [] := by simp [HOK.out]
          rw [e1, List.append_nil]
          exact own_grew H6.out GB.out
        · simp [intOf]; omega
      | false =>
        have HOK := Lib.hid hok
        have gx := grew_alloc wb (.cells #[.int .i64 X.1, .int .u8 (X.2.1 : Nat), .int .u64 (X.2.2.1 : Nat), .slice xa (fB X).length xc, .int .i64 X.2.2.2.2] 44)
        have HSL := Lib.hid (show Sl (wb.alloc (.cells #[.int .i64 X.1, .int .u8 (X.2.1 : Nat), .int .u64 (X.2.2.1 : Nat), .slice xa (fB X).length xc, .int .i64 X.2.2.2.2] 44)) (.slice (some ⟨wb.heap.size, 0, none⟩) 1 1) 1 5 (ffv (X, .slice xa (fB X).length xc)) from Sl.lit wb 44 (0, 0) #[.int .i64 X.1, .int .u8 (X.2.1 : Nat), .int .u64 (X.2.2.1 : Nat), .slice xa (fB X).length xc, .int .i64 X.2.2.2.2] 1 5 rfl (by unfold maxLen; omega))
        have HGX := Lib.hid (GB.out.trans gx)
        have HO := Lib.hid (own_grew H6.out HGX.out)
        have HBX := Lib.hid (HX5.out.grew HGX.out)
        have hbase : wd.heap.size ≤ (wb.alloc (.cells #[.int .i64 X.1, .int .u8 (X.2.1 : Nat), .int .u64 (X.2.2.1 : Nat), .slice xa (fB X).length xc, .int .i64 X.2.2.2.2] 44)).heap.size := by simp; omega
        clear hok gx hwb
        go_upto_region 11 with (fail)
        rw [← HWB.out]
        obtain ⟨x0, x1, x2, x3, x4⟩ := HXC.out
        replace x0 := (below_ext GB.out) _ _ x0
        replace x1 := (below_ext GB.out) _ _ x1
        replace x2 := (below_ext GB.out) _ _ x2
        replace x3 := (below_ext GB.out) _ _ x3
        replace x4 := (below_ext GB.out) _ _ x4
        go_wp2_with (at_builtin; refine wpList_pushFo rfl _ _ rfl wd.heap.size _ P rfl HO.out _ rfl (X, .slice xa (fB X).length xc) HSL.out HBX.out (by omega) hbase ?_; intro v' w9 hown9 hB9 hgb)
        have hne2 : ∀ g, (Value.slice (some ⟨b, o, none⟩) ps.length c2).ownBlock = some g → some g ≠ (Value.slice a9 n9 c9).ownBlock := fun g hg e => by
          have h5 := (HVB.out g hg).2
          have h6 := (own_lt HO.out g e.symm).1
          omega
        have hz5 := H8.out.size
        have hz6 := H1.out.lt
        have hz7 := G2.out.size
        have g9 : Grew w w9 := Below.trans (H8.out.trans HGX.out) (hB9.mono (by omega))
        refine ⟨⟨q + 1, by omega, by go_num, (H1.out.grew HGX.out).kept hgb (blk_ne_row (H1.out.grew HGX.out) HO.out (by decide)), (H7.out.grew HGX.out).kept HO.out hgb hne2, ?_, g9, by have := hB9.size; omega⟩, ?_⟩
        · rw [HTS.out, List.filter_append, ← HP.out]
          have e1 : [(X, Value.slice xa (fB X).length xc)].filter (fun p : FFV => !okP k ver p.1) = [(X, Value.slice xa (fB X).length xc)] := by simp [HOK.out]
          rw [e1]
          exact hown9
        · simp [intOf]; omega
    · obtain rfl : q = ps.length := by omega
      have hpe : P = ps.filter fun p => !okP k ver p.1 := by rw [HP.out, List.take_length]
      have HPE := Lib.hid hpe
      obtain ⟨u0, u1, u2, u3⟩ := cells_of H1.out
      clear hpe
      go_wp2
      have r1 := (H1.out.set 0 (.int .i64 0)).set 1 (.int .i64 0)
      have r2 := ((H7.out.set H1.out (by decide) (by decide) 0 (.int .i64 0)).set (H1.out.set 0 (.int .i64 0)) (by decide) (by decide) 1 (.int .i64 0))
      have r3 := own_set (own_set H6.out ⟨w.heap.size, 0, none⟩ (.int .i64 0) (fun e => blk_ne_row H1.out H6.out (by decide) e.symm)) ⟨w.heap.size, 1, none⟩ (.int .i64 0) (fun e => blk_ne_row H1.out H6.out (by decide) e.symm)
      have r4 := grew_set (b := w.heap.size) (j := 1) (grew_set (b := w.heap.size) (j := 0) H8.out (Nat.le_refl _) (.int .i64 0)) (Nat.le_refl _) (.int .i64 0)
      have hu : unkM k ver l = (P.map (·.1), 0, 0) := by
        unfold unkM
        rw [if_neg (by rw [HE0.out]; simp), HPE.out]
        refine Prod.ext ?_ rfl
        show List.filter _ _ = _
        rw [← HF.out, ← HPS.out, List.filter_map]
        congr 1
        refine List.filter_congr fun p _ => ?_
        show (belR k ver p.1).isNone = !okP k ver p.1
        cases hq : okP k ver p.1 with
        | false => rw [okP_no hq]; rfl
        | true => obtain ⟨r, e, -⟩ := okP_yes hq; rw [e]; rfl
      refine bodyPost_ret (results_tc rfl _ _ _ _ _ rfl rfl (loadVar_fltI _ _ 0 0 r1)) rfl ?_
      refine ⟨.slice a9 n9 c9, by rw [hu]; rfl, by rw [hu]; exact ⟨P, rfl, own_mono r3 (by have := G2.out.size; omega), fun p hp => r2.2 p (by rw [HPE.out] at hp; exact (List.mem_filter.1 hp).1)⟩, r4⟩
end Go.Proofs.Ytbjoohafgkodcaa
