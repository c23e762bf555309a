/- rescriptref11.Decode: contract. -/
import Derived.Test.YtbjoohafgkodcaaGreatWl2
import Derived.Test.YtbjoohafgkodcaaGreatWl5
import Derived.Test.YtbjoohafgkodcaaGreatWl6
import Derived.Test.YtbjoohafgkodcaaGreatSkH
namespace Go.Proofs.YtbjoohafgkodcaaGreat
open Go Go.RowKit Go.Shelf
attribute [local go_sem] Oper.semAt_some

theorem rd_err {k : Nat} {ver : Int} {l : List UInt8} {w W : World} {e : Nat} {at_ : Int} (h : decM k ver l = (mZ, e, at_)) (h0 : Blk W w.heap.size 29 zMsg) (h1 : Blk W (w.heap.size + 1) 32 #[.int .i64 (e : Nat), .int .i64 at_]) (hg : Grew w W)
    (tmps : Array Value) (t0 : tmps.getD 6 undef = .pointer (some ⟨w.heap.size, 0, none⟩)) (t1 : tmps.getD 7 undef = .pointer (some ⟨w.heap.size + 1, 0, none⟩)) :
    ∃ v, (results Tryz.f29 tmps).run Tryz.prog W = .ok v W ∧ DecP k ver l w (.returned v) W := by
  refine ⟨_, results_cc rfl _ _ _ _ _ _ t0 t1 (loadVar_msg _ _ mZ (.slice none 0 0) h0) (loadVar_fltI _ _ _ _ h1), .slice none 0 0, ?_, ?_, hg⟩
  · rw [h]
  · rw [h]; exact ownT_none _ _
def errW2 (W : World) (b : Nat) (e : Nat) (at_ : Int) : World := (((chainW W b mZ (.slice none 0 0)).setCell ⟨b + 1, 0, none⟩ (.int .i64 (e : Nat))).setCell ⟨b + 1, 1, none⟩ (.int .i64 at_))
theorem rd_err12 {k : Nat} {ver : Int} {l : List UInt8} {w W : World} {e : Nat} {at_ : Int} {x y : Value} (h : decM k ver l = (mZ, e, at_)) (h0 : Blk W w.heap.size 29 zMsg) (h1 : Blk W (w.heap.size + 1) 32 #[x, y]) (hg : Grew w W)
    (tmps : Array Value) (t0 : tmps.getD 6 undef = .pointer (some ⟨w.heap.size, 0, none⟩)) (t1 : tmps.getD 7 undef = .pointer (some ⟨w.heap.size + 1, 0, none⟩)) :
    ∃ v, (results Tryz.f29 tmps).run Tryz.prog (errW2 W w.heap.size e at_) = .ok v (errW2 W w.heap.size e at_) ∧ DecP k ver l w (.returned v) (errW2 W w.heap.size e at_) := by
  refine rd_err h ?_ ?_ ?_ tmps t0 t1
  · exact ((chain_blk (m0 := mZ) (lv0 := .slice none 0 0) h0 mZ (.slice none 0 0)).other ⟨w.heap.size + 1, 0, none⟩ _ (by simp)).other ⟨w.heap.size + 1, 1, none⟩ _ (by simp)
  · exact ((chain_other h1 (by omega) mZ (.slice none 0 0)).set 0 _).set 1 _
  · exact grew_set (grew_set (chain_below hg (Nat.le_refl _) mZ (.slice none 0 0)) (by omega) _) (by omega) _
def doneW (W : World) (b : Nat) (s : Msg) (lv : Value) : World := (((chainW W b s lv).setCell ⟨b + 1, 0, none⟩ (.int .i64 0)).setCell ⟨b + 1, 1, none⟩ (.int .i64 0))
theorem rd_done {k : Nat} {ver : Int} {l : List UInt8} {w W : World} {s : Msg} {lv x y : Value} (h : decM k ver l = (s, 0, 0)) (h0 : Blk W w.heap.size 29 zMsg) (h1 : Blk W (w.heap.size + 1) 32 #[x, y]) (ho : OwnT W w.heap.size lv s.l) (hg : Grew w W)
    (tmps : Array Value) (t0 : tmps.getD 6 undef = .pointer (some ⟨w.heap.size, 0, none⟩)) (t1 : tmps.getD 7 undef = .pointer (some ⟨w.heap.size + 1, 0, none⟩)) :
    ∃ v, (results Tryz.f29 tmps).run Tryz.prog (doneW W w.heap.size s lv) = .ok v (doneW W w.heap.size s lv) ∧ DecP k ver l w (.returned v) (doneW W w.heap.size s lv) := by
  have n0 : lv.ownBlock ≠ some w.heap.size := fun e => blk_ne_row h0 ho (by decide) e.symm
  have n1 : lv.ownBlock ≠ some (w.heap.size + 1) := fun e => blk_ne_row h1 ho (by decide) e.symm
  have r0 : Blk (doneW W w.heap.size s lv) w.heap.size 29 (msgA s lv) := ((chain_blk (m0 := mZ) (lv0 := .slice none 0 0) h0 s lv).other ⟨w.heap.size + 1, 0, none⟩ (.int .i64 0) (by simp)).other ⟨w.heap.size + 1, 1, none⟩ (.int .i64 0) (by simp)
  have r1 : Blk (doneW W w.heap.size s lv) (w.heap.size + 1) 32 #[.int .i64 0, .int .i64 0] := ((chain_other h1 (by omega) s lv).set 0 (.int .i64 0)).set 1 (.int .i64 0)
  have r2 : OwnT (doneW W w.heap.size s lv) w.heap.size lv s.l := own_set (own_set (chain_own ho n0 s lv) ⟨w.heap.size + 1, 0, none⟩ (.int .i64 0) n1) ⟨w.heap.size + 1, 1, none⟩ (.int .i64 0) n1
  have r3 : Grew w (doneW W w.heap.size s lv) := grew_set (b := w.heap.size + 1) (j := 1) (grew_set (b := w.heap.size + 1) (j := 0) (chain_below hg (Nat.le_refl _) s lv) (by omega) (.int .i64 0)) (by omega) (.int .i64 0)
  exact ⟨_, results_cc rfl _ _ _ _ _ _ t0 t1 (loadVar_msg _ _ _ _ r0) (loadVar_fltI _ _ 0 0 r1), lv, by rw [h], by rw [h]; exact r2, r3⟩
set_option maxRecDepth 100000 in
set_option maxHeartbeats 16000000 in
theorem rdecode_any (k : Nat) (ver : Int) (l : List UInt8) (v : Value) (w : World) (hb : Bs w v l) (hlen : l.length ≤ 1000000) :
    Calls Tryz.prog 29 #[.int .u8 k, .int .i64 ver, v] w (DecP k ver l w) := by
  obtain ⟨a, c, rfl⟩ := bs_len hb
  obtain ⟨W0, hW0⟩ : ∃ W0, W0 = (w.alloc (.cells zMsg 29)).alloc (.cells #[.int .i64 0, .int .i64 0] 32) := ⟨_, rfl⟩
  have g0 : Grew w W0 := by rw [hW0]; exact ((Below.refl _ _).alloc (Nat.le_refl _) _).alloc (by simp) _
  have k0 : Blk W0 w.heap.size 29 zMsg := by rw [hW0]; exact (Blk.new _ _ _).alloc _
  have k1 : Blk W0 (w.heap.size + 1) 32 #[.int .i64 0, .int .i64 0] := by rw [hW0]; exact Blk.at (by simp)
  have G0 := Lib.hid g0
  have K0 := Lib.hid k0
  have K1 := Lib.hid k1
  have HB := Lib.hid hb
  have KO := Lib.hid (fun W => rof_any k ver W)
  simp only [zMsg] at hW0
  clear g0 k0 k1 hb
  go_enter Tryz.func29, Tryz.ntmps29
  go_wp2_with fail
  rw [← hW0]
  clear hW0
  refine (KO.out _).mono ?_
  rintro e w1 ⟨v1, rfl, ho1, g1⟩
  obtain ⟨a1, c1, rfl, -, -, -, -⟩ := (Sl.of_own ho1).open
  have G1 := Lib.hid (G0.out.trans g1)
  have K01 := Lib.hid (K0.out.grew g1)
  have K11 := Lib.hid (K1.out.grew g1)
  have HB1 := Lib.hid (HB.out.grew G1.out)
  clear g1 ho1
  by_cases hne : ofKind k (rowsIn ver) = []
  · have q0 : (((ofKind k (rowsIn ver)).length : Int) == 0) = true := by rw [hne]; rfl
    have q00 : (ofKind k (rowsIn ver)).length = 0 := by rw [hne]; rfl
    have HS := Lib.hid (show decM k ver l = (mZ, 7, 0) by unfold decM; rw [if_pos hne])
    obtain ⟨o0, o1, o2, o3, o4, o5, o6, o7, o8, o9⟩ := mcells (show Blk w1 w.heap.size 29 (msgA mZ (.slice none 0 0)) from K01.out)
    have fz := fun j => (K01.out).frozen j
    have f0 := fz 0
    have f1 := fz 1
    have f2 := fz 2
    have f3 := fz 3
    have f4 := fz 4
    have f5 := fz 5
    have f6 := fz 6
    have f7 := fz 7
    have f8 := fz 8
    have f9 := fz 9
    obtain ⟨u0, u1, u2, u3⟩ := cells_of K11.out
    clear fz hne
    go_wp2
    exact post_of rfl (rd_err12 HS.out K01.out K11.out G1.out _ rfl rfl)
  have q0 : (((ofKind k (rowsIn ver)).length : Int) == 0) = false := by
    rw [beq_eq_false_iff_ne]
    cases hh : ofKind k (rowsIn ver) with
    | nil => exact absurd hh hne
    | cons r L => simp; omega
  by_cases h8 : 8192 < l.length
  · have q1 : decide ((l.length : Int) > 8192) = true := decide_eq_true (by omega)
    have HS := Lib.hid (show decM k ver l = (mZ, 2, 0) by unfold decM; rw [if_neg hne, if_pos h8])
    obtain ⟨o0, o1, o2, o3, o4, o5, o6, o7, o8, o9⟩ := mcells (show Blk w1 w.heap.size 29 (msgA mZ (.slice none 0 0)) from K01.out)
    have fz := fun j => (K01.out).frozen j
    have f0 := fz 0
    have f1 := fz 1
    have f2 := fz 2
    have f3 := fz 3
    have f4 := fz 4
    have f5 := fz 5
    have f6 := fz 6
    have f7 := fz 7
    have f8 := fz 8
    have f9 := fz 9
    obtain ⟨u0, u1, u2, u3⟩ := cells_of K11.out
    clear fz hne h8
    go_wp2
    exact post_of rfl (rd_err12 HS.out K01.out K11.out G1.out _ rfl rfl)
  have q1 : decide ((l.length : Int) > 8192) = false := decide_eq_false (by omega)
  have HNE := Lib.hid hne
  have H8 := Lib.hid h8
  clear hne
  go_wp2_with fail
  refine (r06fields_any l _ _ HB1.out (by omega)).mono ?_
  obtain ⟨F, hF⟩ : ∃ F, F = fieldsR l := ⟨_, rfl⟩
  rw [← hF]
  rintro e w2 ⟨v2, rfl, ⟨ps, hps, hfv⟩, g2⟩
  obtain ⟨a2, c2, rfl, -, -, -, -⟩ := hfv.flr.1.open
  obtain ⟨wd, hwd⟩ : ∃ wd, wd = w2.alloc (.cells #[.int .i64 (F.2.1 : Nat), .int .i64 (F.2.2 : Nat)] 32) := ⟨_, rfl⟩
  have gd : Grew w2 wd := by rw [hwd]; exact grew_alloc _ _
  have kd : Blk wd w2.heap.size 32 #[.int .i64 (F.2.1 : Nat), .int .i64 (F.2.2 : Nat)] := by rw [hwd]; exact Blk.new _ _ _
  have K02 := Lib.hid ((K01.out.grew g2).grew gd)
  have K12 := Lib.hid ((K11.out.grew g2).grew gd)
  have G2 := Lib.hid ((G1.out.trans g2).trans gd)
  have KD := Lib.hid kd
  have hz2 : w.heap.size + 1 < w2.heap.size := (K11.out.grew g2).lt
  have HFV := Lib.hid ((hfv.grew gd).mono (show w.heap.size ≤ w1.heap.size from G1.out.size))
  have HPS := Lib.hid hps
  have HF := Lib.hid hF
  have HZD := Lib.hid (show wd.heap.size = w2.heap.size + 1 by rw [hwd]; simp)
  obtain ⟨d0, d1, d2, d3⟩ := cells_of kd
  rw [hwd] at d0 d1 d2 d3
  have HWD := Lib.hid hwd
  clear gd kd g2 hfv hps hwd
  by_cases he : F.2.1 ≠ 0
  · have qe : ((F.2.1 : Int) != 0) = true := by simp; omega
    have HS := Lib.hid (show decM k ver l = (mZ, F.2.1, (F.2.2 : Int)) by unfold decM; rw [if_neg HNE.out, if_neg H8.out, ← hF, if_pos he])
    clear he hF
    simp only [faultV]
    go_upto_region 7 with (fail)
    rw [← HWD.out]
    refine wp_region_heldN (S := fun W => Blk W w2.heap.size 32 #[.int .i64 (F.2.1 : Nat), .int .i64 (F.2.2 : Nat)]) (by kernel_rfl) KD.out.drew (fun hHeld => ?_)
    refine wpAnyH_take (i := 0) (oi := ⟨some 36, _, _, _, _, _⟩) (v := .agg zMsg) rfl (by kernel_rfl) (by kernel_rfl) (by kernel_rfl) (fun _ _ _ h => h) (Or.inl ⟨by rfl, ?_⟩) (by assumption) ?_
    · intro V hV
      go_simp
      try rfl
    simp only [Act.put, List.setIfInBounds_toArray, List.set_cons_zero, List.set_cons_succ]
    refine wpAnyH_take (i := 1) (oi := ⟨some 37, _, _, _, _, _⟩) (v := .agg #[.int .i64 (F.2.1 : Nat), .int .i64 (F.2.2 : Nat)]) rfl (by kernel_rfl) (by kernel_rfl) (by kernel_rfl) (fun _ _ _ h => h) (y_row 32 _ rfl w2.heap.size rfl 32 _ _ (fun W h => h) Tryz.underlying32 rfl (by kernel_rfl) rfl) (by assumption) ?_
    simp only [Act.put, List.setIfInBounds_toArray, List.set_cons_zero, List.set_cons_succ]
    refine wpAnyH_ready (rs := [2]) (by kernel_rfl) (by simp) ?_
    refine AllReadyH.cons (o := _) rfl (fun K hK => ?_) AllReadyH.nil
    refine wp_store_row 29 _ _ rfl w.heap.size zMsg rfl rfl 29 _ K02.out.drew (by kernel_rfl) rfl (by simp [zMsg, Value.oneCell']) ?_
    refine hK.out _ _ (hHeld.rowOther (by omega)) (fun hHeld => ?_)
    clear hK K
    simp only [Act.put]
    refine wpAnyH_ready (rs := [3]) (by kernel_rfl) (by simp) ?_
    refine AllReadyH.cons (o := _) rfl (fun K hK => ?_) AllReadyH.nil
    refine wp_store_pair 32 _ _ rfl (w.heap.size + 1) _ _ rfl rfl 32 _ (K12.out.drew.rowOther (by omega)) (by kernel_rfl) rfl rfl rfl ?_
    refine hK.out _ _ (hHeld.rowOther (by omega)) (fun _ => ?_)
    clear hK K
    simp only [Act.put]
    refine wpAnyH_done (by kernel_rfl) ?_ _
    have R0 := Lib.hid ((K02.out.drew.row zMsg).rowOther (b := w.heap.size + 1) (new := #[.int .i64 (F.2.1 : Nat), .int .i64 (F.2.2 : Nat)]) (by omega))
    have R1 := Lib.hid ((K12.out.drew.rowOther (b := w.heap.size) (new := zMsg) (by omega)).row #[.int .i64 (F.2.1 : Nat), .int .i64 (F.2.2 : Nat)])
    have R3 := Lib.hid (below_setRow (below_setRow (G2.out.trans (Drew.grew ⟨1, rfl⟩ : Grew _ wd.drew)) (Nat.le_refl _) zMsg) (show w.heap.size ≤ w.heap.size + 1 by omega) #[.int .i64 (F.2.1 : Nat), .int .i64 (F.2.2 : Nat)])
    clear hHeld
    simp only [onlyN]
    go_wp2
    exact post_of rfl (rd_err HS.out R0.out R1.out R3.out _ rfl rfl)
  have he0 : F.2.1 = 0 := by omega
  have HE0 := Lib.hid he0
  have qe : ((F.2.1 : Int) != 0) = false := by simp; omega
  have HS := Lib.hid (show decM k ver l = decF k ver (m0 k) (ps.map (·.1)) by unfold decM; rw [if_neg HNE.out, if_neg H8.out, ← hF, if_neg he, HPS.out])
  have HPL := Lib.hid (show ps.length ≤ 8192 by have h := fieldsR_len l; rw [← hF, ← HPS.out, List.length_map] at h; omega)
  obtain ⟨wm, hwm⟩ : ∃ wm, wm = wd.alloc (.cells (msgA (m0 k) (.slice none 0 0)) 29) := ⟨_, rfl⟩
  have gm : Grew wd wm := by rw [hwm]; exact grew_alloc _ _
  have GM := Lib.hid gm
  have KM := Lib.hid (show Blk wm (w2.heap.size + 1) 29 (msgA (m0 k) (.slice none 0 0)) by rw [← HZD.out, hwm]; exact Blk.new _ _ _)
  simp only [msgA, m0, Int.natCast_zero] at hwm
  have HWM := Lib.hid hwm
  clear gm hwm he hF he0
  simp only [faultV]
  go_upto_block 0 with fail
  rw [← HWD.out, ← HWM.out]
  go_wp2
  go_loopw [11] (fun i wr => ∃ (q : Nat) (s : Msg) (lv : Value), q ≤ ps.length ∧ i = .int .i64 q ∧ Blk wr w.heap.size 29 zMsg ∧ Blk wr (w.heap.size + 1) 32 #[.int .i64 0, .int .i64 0] ∧ Blk wr (w2.heap.size + 1) 29 (msgA s lv) ∧ OwnT wr w.heap.size lv s.l ∧ FieldsV wr w.heap.size (.slice a2 ps.length c2) ps ∧ Grew w wr ∧ s.l.length ≤ q ∧ RowKit.Hid (decF k ver (m0 k) ((ps.take q).map (·.1)) = (s, 0, 0))) (fun i _ => ps.length - (intOf i).toNat)
  case atStart => exact ⟨0, m0 k, .slice none 0 0, Nat.zero_le _, rfl, K02.out.grew GM.out, K12.out.grew GM.out, KM.out, ownT_none _ _, HFV.out.grew GM.out, G2.out.trans GM.out, Nat.zero_le _, Lib.hid rfl⟩
  case round =>
    obtain ⟨q, s, lv, hq, rfl, h0, h1, h3, h5, h7, h8, h10, h11⟩ := hrel
    obtain ⟨al, cl, rfl⟩ := tx_len (Sl.of_own h5)
    have H0 := Lib.hid h0
    have H1 := Lib.hid h1
    have H3 := Lib.hid h3
    have H5 := Lib.hid h5
    have H7 := Lib.hid h7
    have H8 := Lib.hid h8
    have H11 := Lib.hid h11.out
    have hbm : w2.heap.size + 1 < wr.heap.size := h3.lt
    have hpl8 : ps.length ≤ 8192 := HPL.out
    clear h0 h1 h3 h5 h7 h8 h11
    by_cases hlt : q < ps.length
    · obtain ⟨a', c', e, -, -, -, hcc⟩ := H7.out.flr.1.open
      cases e
      obtain ⟨b, o, rfl, -⟩ := hcc (by omega)
      obtain ⟨x0, x1, x2, x3, x4, x5⟩ := fl_cells H7.out.flr q hlt
      have hts : ps.take (q + 1) = ps.take q ++ [ps[q]] := List.take_succ_eq_append_getElem hlt
      have hdr : ps = ps.take q ++ ps[q] :: ps.drop (q + 1) := by rw [List.getElem_cons_drop, List.take_append_drop]
      have hmem : ps[q] ∈ ps := List.getElem_mem hlt
      generalize hr : ps[q] = p at x0 x1 x2 x3 x4 x5 hts hdr hmem
      obtain ⟨X, xv⟩ := p
      simp only at x0 x1 x2 x3 x4 x5
      obtain ⟨xa, xc, rfl⟩ := bs_len x5
      have hxn : fN X < 18446744073709551616 ∧ (fB X).length ≤ 8192 := by
        have hm : X ∈ (fieldsR l).1 := by rw [← HF.out, ← HPS.out]; exact List.mem_map.2 ⟨_, hmem, rfl⟩
        have he9 : (fieldsR l).2.1 = 0 := by rw [← HF.out]; exact HE0.out
        exact ⟨(fields_num he9 X hm).1, (fieldsR_ok l he9 X hm).2⟩
      have HXN := Lib.hid hxn
      have HXC := Lib.hid (And.intro x0 (And.intro x1 (And.intro x2 (And.intro x3 x4))))
      have HTS := Lib.hid hts
      have HDR := Lib.hid hdr
      have HX5 := Lib.hid x5
      have KBE := Lib.hid (belongs_any k ver X _ wr x5)
      have zi : (q : Int) < (ps.length : Int) := by omega
      have z0 : (0 : Int) ≤ (q : Int) := by omega
      clear hr hts hdr hmem x5 hcc hxn
      go_wp2_with fail
      refine KBE.out.mono ?_
      rintro e w3 ⟨rfl, g3⟩
      obtain ⟨wb, hwb⟩ : ∃ wb, wb = w3.alloc (.cells #[.int .i64 (spN (finR k ver X)), .int .i64 (spT (finR k ver X)), .int .i64 (spS (finR k ver X))] 82) := ⟨_, rfl⟩
      have gb : Grew w3 wb := by rw [hwb]; exact grew_alloc _ _
      have kb : Blk wb w3.heap.size 82 #[.int .i64 (spN (finR k ver X)), .int .i64 (spT (finR k ver X)), .int .i64 (spS (finR k ver X))] := by rw [hwb]; exact Blk.new _ _ _
      have GB := Lib.hid (g3.trans gb)
      have KB := Lib.hid kb
      have HWB := Lib.hid hwb
      have hgs := (g3.trans gb).size
      have hgs3 := g3.size
      clear x0 x1 x2 x3 x4 g3 gb kb hwb KBE
      cases hok : okP k ver X with
      | false =>
        have HOK := Lib.hid hok
        clear hok
        go_wp2
        rw [← HWB.out]
        refine ⟨⟨q + 1, s, .slice al s.l.length cl, by omega, by go_num, H0.out.grew GB.out, H1.out.grew GB.out, H3.out.grew GB.out, own_grew H5.out GB.out, H7.out.grew GB.out, H8.out.trans GB.out, by omega, Lib.hid ?_⟩, ?_⟩
        · rw [HTS.out, List.map_append, decF_app _ _ _ _ _ (by rw [H11.out]), H11.out]
          exact decF_skip (okP_no HOK.out)
        · simp [intOf]; omega
      | true =>
        obtain ⟨r, hr, r1, r2, r3⟩ := okP_yes hok
        obtain ⟨SM, hSM⟩ : ∃ SM, SM = setM s r.2.2.1 r.2.2.2.1 X := ⟨_, rfl⟩
        have hKS : ∀ V, Grew wb V → Calls Tryz.prog 52 #[.agg (msgA s (.slice al s.l.length cl)), .agg #[.int .i64 (r.2.1 : Nat), .int .i64 (r.2.2.1 : Nat), .int .i64 (r.2.2.2.1 : Nat)], fldA X (.slice xa (fB X).length xc)] V fun e w' => ∃ v, e = .returned (.tuple #[.agg (msgA SM.1 v), .int .i64 (SM.2 : Nat)]) ∧ ((v = .slice al s.l.length cl ∧ SM.1.l = s.l) ∨ OwnT w' V.heap.size v SM.1.l) ∧ Grew V w' := by
          intro V g
          have h := rset_any s (.slice al s.l.length cl) (spN (finR k ver X)) (spT (finR k ver X)) (spS (finR k ver X)) X (.slice xa (fB X).length xc) V ((Sl.of_own H5.out).grew (GB.out.trans g)) (by omega) (HX5.out.grew (GB.out.trans g)) (by have := HXN.out.2; omega) HXN.out.1
          rw [r1, r2, r3] at h
          unfold RSetP at h
          rw [← hSM] at h
          exact h
        have HR := Lib.hid hr
        have HSM := Lib.hid hSM
        have KSE := Lib.hid hKS
        have HM2 := Lib.hid (H3.out.grew GB.out)
        have hbne1 : w.heap.size ≠ b := fun e => blk_ne_row H0.out H7.out.1 (by decide) (by rw [e]; rfl)
        have hbne2 : w.heap.size + 1 ≠ b := fun e => blk_ne_row H1.out H7.out.1 (by decide) (by rw [e]; rfl)
        clear hr hSM hKS
        go_upto_region 14 with (fail)
        rw [r1, r2, r3] at KB HWB
        rw [← HWB.out]
        clear hok r1 r2 r3 HWB
        refine wp_region_heldN (S := fun V => Grew wb V) (by kernel_rfl) (Drew.grew ⟨1, rfl⟩) (fun hHeld => ?_)
        refine wpAnyH_take (i := 0) (oi := ⟨some 59, _, _, _, _, _⟩) (v := .agg (msgA s (.slice al s.l.length cl))) rfl (by kernel_rfl) (by kernel_rfl) (by kernel_rfl) (fun _ _ _ h => h) (y_row 29 _ rfl (w2.heap.size + 1) rfl 29 _ _ (fun V h => HM2.out.grew h) Tryz.underlying29 rfl (by kernel_rfl) rfl) (by assumption) ?_
        simp only [Act.put, List.setIfInBounds_toArray, List.set_cons_zero, List.set_cons_succ]
        refine wpAnyH_take (i := 1) (oi := ⟨some 60, _, _, _, _, _⟩) (v := .agg #[.int .i64 (r.2.1 : Nat), .int .i64 (r.2.2.1 : Nat), .int .i64 (r.2.2.2.1 : Nat)]) rfl (by kernel_rfl) (by kernel_rfl) (by kernel_rfl) (fun _ _ _ h => h) (y_row 82 _ rfl w3.heap.size rfl 82 _ _ (fun V h => KB.out.grew h) Tryz.underlying82 rfl (by kernel_rfl) rfl) (by assumption) ?_
        simp only [Act.put, List.setIfInBounds_toArray, List.set_cons_zero, List.set_cons_succ]
        refine wpAnyH_take (i := 2) (oi := ⟨some 61, _, _, _, _, _⟩) (v := .slice (some ⟨b, o, none⟩) ps.length c2) rfl (by kernel_rfl) (by kernel_rfl) (by kernel_rfl) (fun _ _ _ h => h) (Or.inl ⟨by rfl, ?_⟩) (by assumption) ?_
        · intro V hV
          go_simp
          try rfl
        simp only [Act.put, List.setIfInBounds_toArray, List.set_cons_zero, List.set_cons_succ]
        refine wpAnyH_take (i := 3) (oi := ⟨some 62, _, _, _, _, _⟩) (v := .int .i64 (q : Nat)) rfl (by kernel_rfl) (by kernel_rfl) (by kernel_rfl) (fun _ _ _ h => h) (Or.inl ⟨by rfl, ?_⟩) (by assumption) ?_
        · intro V hV
          go_simp
          try rfl
        simp only [Act.put, List.setIfInBounds_toArray, List.set_cons_zero, List.set_cons_succ]
        refine wpAnyH_take (i := 4) (oi := ⟨some 63, _, _, _, _, _⟩) (v := .pointer (some ⟨b, o + q * 5, none⟩)) rfl (by kernel_rfl) (by kernel_rfl) (by kernel_rfl) (fun _ _ _ h => h) (Or.inl ⟨by rfl, ?_⟩) (by assumption) ?_
        · intro V hV
          go_simp
          try rfl
        simp only [Act.put, List.setIfInBounds_toArray, List.set_cons_zero, List.set_cons_succ]
        refine wpAnyH_take (i := 5) (oi := ⟨some 64, _, _, _, _, _⟩) (v := .agg #[.int .i64 X.1, .int .u8 (X.2.1 : Nat), .int .u64 (X.2.2.1 : Nat), .slice xa (fB X).length xc, .int .i64 X.2.2.2.2]) rfl (by kernel_rfl) (by kernel_rfl) (by kernel_rfl) (fun _ _ _ h => h) (Or.inl ⟨by rfl, ?_⟩) (by assumption) ?_
        · intro V hV
          obtain ⟨x0, x1, x2, x3, x4⟩ := HXC.out
          have ee := below_ext (GB.out.trans hV)
          replace x0 := ee _ _ x0
          replace x1 := ee _ _ x1
          replace x2 := ee _ _ x2
          replace x3 := ee _ _ x3
          replace x4 := ee _ _ x4
          clear ee
          go_simp
          try rfl
        simp only [Act.put, List.setIfInBounds_toArray, List.set_cons_zero, List.set_cons_succ]
        refine wpAnyH_ready (rs := [6, 10]) (by kernel_rfl) (by simp) ?_
        refine AllReadyH.cons (o := _) rfl (fun K hK => ?_) (AllReadyH.cons (o := _) rfl (fun K hK => ?_) AllReadyH.nil)
        · skip
          go_simp
          refine (KSE.out _ hHeld).mono ?_
          rintro e w6 ⟨v6, rfl, hv6, g6⟩
          obtain ⟨a6, n6, c6, rfl⟩ : ∃ a n c, v6 = .slice a n c := by
            rcases hv6 with ⟨rfl, -⟩ | h
            · exact ⟨_, _, _, rfl⟩
            · obtain ⟨a, c, e⟩ := tx_len (Sl.of_own h)
              exact ⟨a, _, c, e⟩
          have H6 := Lib.hid (Grew.trans hHeld g6)
          have HV6 := Lib.hid hv6
          have G6 := Lib.hid g6
          clear hv6 g6
          go_simp
          refine hK.out _ _ H6.out (fun hH6 => ?_)
          clear hK K
          (try simp only [Act.put, List.setIfInBounds_toArray, List.set_cons_zero, List.set_cons_succ])
          refine wpAnyH_take (i := 7) (oi := ⟨some 58, _, _, _, _, _⟩) (v := .tuple #[.agg (msgA SM.1 (.slice a6 n6 c6)), .int .i64 (SM.2 : Nat)]) rfl (by kernel_rfl) (by kernel_rfl) (by kernel_rfl) (fun _ _ _ h => h) (Or.inl ⟨by rfl, ?_⟩) (by assumption) ?_
          · intro V hV
            go_simp
            try rfl
          simp only [Act.put, List.setIfInBounds_toArray, List.set_cons_zero, List.set_cons_succ]
          refine wpAnyH_take (i := 8) (oi := ⟨some 66, _, _, _, _, _⟩) (v := .agg (msgA SM.1 (.slice a6 n6 c6))) rfl (by kernel_rfl) (by kernel_rfl) (by kernel_rfl) (fun _ _ _ h => h) (Or.inl ⟨by rfl, ?_⟩) (by assumption) ?_
          · intro V hV
            go_simp
            try rfl
          simp only [Act.put, List.setIfInBounds_toArray, List.set_cons_zero, List.set_cons_succ]
          refine wpAnyH_take (i := 9) (oi := ⟨some 67, _, _, _, _, _⟩) (v := .int .i64 (SM.2 : Nat)) rfl (by kernel_rfl) (by kernel_rfl) (by kernel_rfl) (fun _ _ _ h => h) (Or.inl ⟨by rfl, ?_⟩) (by assumption) ?_
          · intro V hV
            go_simp
            try rfl
          simp only [Act.put, List.setIfInBounds_toArray, List.set_cons_zero, List.set_cons_succ]
          refine wpAnyH_ready (rs := [10]) (by kernel_rfl) (by simp) ?_
          refine AllReadyH.cons (o := _) rfl (fun K hK => ?_) AllReadyH.nil
          go_simp
          refine hK.out _ _ (Grew.trans H6.out (grew_alloc _ _)) (fun hHz => ?_)
          clear hK K
          (try simp only [Act.put, List.setIfInBounds_toArray, List.set_cons_zero, List.set_cons_succ])
          refine wpAnyH_ready (rs := [11]) (by kernel_rfl) (by simp) ?_
          refine AllReadyH.cons (o := _) rfl (fun K hK => ?_) AllReadyH.nil
          have kz := (Blk.new w6 29 zMsg)
          refine wp_store_row 29 _ _ rfl w6.heap.size (msgA SM.1 (.slice a6 n6 c6)) rfl rfl 29 _ kz (by kernel_rfl) rfl (msgA_one _ _ _ _) ?_
          refine hK.out _ _ (below_setRow hHz (by have := H6.out.size; simp at *; try omega) _) (fun hH7 => ?_)
          clear hK K
          simp only [Act.put]
          refine wpAnyH_take (i := 12) (oi := ⟨some 15, _, _, _, _, _⟩) (v := .int .i64 (SM.2 : Nat)) rfl (by kernel_rfl) (by kernel_rfl) (by kernel_rfl) (fun _ _ _ h => h) (Or.inl ⟨by rfl, ?_⟩) (by assumption) ?_
          · intro V hV
            go_simp
            try rfl
          simp only [Act.put, List.setIfInBounds_toArray]
          refine wpAnyH_done (by kernel_rfl) ?_ _
          obtain ⟨b4, hb4⟩ : ∃ b4, b4 = w6.heap.size := ⟨_, rfl⟩
          obtain ⟨wn, hwn⟩ : ∃ wn, wn = (w6.alloc (.cells zMsg 29)).setRow w6.heap.size (msgA SM.1 (.slice a6 n6 c6)) := ⟨_, rfl⟩
          have hb4l : wb.heap.size ≤ b4 := by rw [hb4]; have := H6.out.size; simp at *; try omega
          have KN := Lib.hid (show Blk wn b4 29 (msgA SM.1 (.slice a6 n6 c6)) by rw [hwn, hb4]; exact kz.row _)
          have GN := Lib.hid (show Grew wr wn by rw [hwn]; exact GB.out.trans hH7)
          have HO6 := Lib.hid (show OwnT wn w.heap.size (.slice a6 n6 c6) SM.1.l by
            rw [hwn]
            have hz9 := H8.out.size
            have hz8 := GB.out.size
            rcases HV6.out with ⟨e1, e2⟩ | h
            · rw [e1, e2]
              have h := own_grew H5.out (GB.out.trans hHz)
              exact own_block h (fun g hg => setRow_other _ _ _ _ (fun e => blk_ne_row kz h (by decide) (by subst e; exact hg.symm)))
            · have h := own_mono (base' := w.heap.size) (own_grew h (grew_alloc w6 (.cells zMsg 29))) (by simp at *; try omega)
              exact own_block h (fun g hg => setRow_other _ _ _ _ (fun e => blk_ne_row kz h (by decide) (by subst e; exact hg.symm))))
          simp only [zMsg] at hwn
          rw [← hwn, ← hb4]
          clear hwn hb4 kz hH7 hHz hHeld hH6
          simp only [onlyN]
          have hz9 := H8.out.size
          have hz8 := GB.out.size
          have HNE4 := Lib.hid (show b4 ≠ w2.heap.size + 1 by omega)
          by_cases he : SM.2 ≠ 0
          · have qe : ((SM.2 : Int) != 0) = true := by simp; omega
            have HE2 := Lib.hid he
            have x4 := (below_ext GN.out) _ _ HXC.out.2.2.2.2
            clear he
            go_upto_region 16 with (fail)
            refine wp_region_heldN (S := fun V => V.cell? ⟨b, o + q * 5 + 4, none⟩ = some (.int .i64 X.2.2.2.2)) (by kernel_rfl) x4 (fun hHeld => ?_)
            clear x4
            refine wpAnyH_take (i := 0) (oi := ⟨some 70, _, _, _, _, _⟩) (v := .agg zMsg) rfl (by kernel_rfl) (by kernel_rfl) (by kernel_rfl) (fun _ _ _ h => h) (Or.inl ⟨by rfl, ?_⟩) (by assumption) ?_
            · intro V hV
              go_simp
              try rfl
            simp only [Act.put, List.setIfInBounds_toArray, List.set_cons_zero, List.set_cons_succ]
            refine wpAnyH_take (i := 1) (oi := ⟨some 71, _, _, _, _, _⟩) (v := .int .i64 (SM.2 : Nat)) rfl (by kernel_rfl) (by kernel_rfl) (by kernel_rfl) (fun _ _ _ h => h) (Or.inl ⟨by rfl, ?_⟩) (by assumption) ?_
            · intro V hV
              go_simp
              try rfl
            simp only [Act.put, List.setIfInBounds_toArray, List.set_cons_zero, List.set_cons_succ]
            refine wpAnyH_take (i := 2) (oi := ⟨some 72, _, _, _, _, _⟩) (v := .slice (some ⟨b, o, none⟩) ps.length c2) rfl (by kernel_rfl) (by kernel_rfl) (by kernel_rfl) (fun _ _ _ h => h) (Or.inl ⟨by rfl, ?_⟩) (by assumption) ?_
            · intro V hV
              go_simp
              try rfl
            simp only [Act.put, List.setIfInBounds_toArray, List.set_cons_zero, List.set_cons_succ]
            refine wpAnyH_take (i := 3) (oi := ⟨some 73, _, _, _, _, _⟩) (v := .int .i64 (q : Nat)) rfl (by kernel_rfl) (by kernel_rfl) (by kernel_rfl) (fun _ _ _ h => h) (Or.inl ⟨by rfl, ?_⟩) (by assumption) ?_
            · intro V hV
              go_simp
              try rfl
            simp only [Act.put, List.setIfInBounds_toArray, List.set_cons_zero, List.set_cons_succ]
            refine wpAnyH_take (i := 4) (oi := ⟨some 74, _, _, _, _, _⟩) (v := .pointer (some ⟨b, o + q * 5, none⟩)) rfl (by kernel_rfl) (by kernel_rfl) (by kernel_rfl) (fun _ _ _ h => h) (Or.inl ⟨by rfl, ?_⟩) (by assumption) ?_
            · intro V hV
              go_simp
              try rfl
            simp only [Act.put, List.setIfInBounds_toArray, List.set_cons_zero, List.set_cons_succ]
            refine wpAnyH_take (i := 5) (oi := ⟨some 75, _, _, _, _, _⟩) (v := .pointer (some ⟨b, o + q * 5 + 4, none⟩)) rfl (by kernel_rfl) (by kernel_rfl) (by kernel_rfl) (fun _ _ _ h => h) (Or.inl ⟨by rfl, ?_⟩) (by assumption) ?_
            · intro V hV
              go_simp
              try rfl
            simp only [Act.put, List.setIfInBounds_toArray, List.set_cons_zero, List.set_cons_succ]
            refine wpAnyH_take (i := 6) (oi := ⟨some 76, _, _, _, _, _⟩) (v := .int .i64 X.2.2.2.2) rfl (by kernel_rfl) (by kernel_rfl) (by kernel_rfl) (fun _ _ _ h => h) (Or.inl ⟨by rfl, ?_⟩) (by assumption) ?_
            · intro V hV
              go_simp
              try rfl
            simp only [Act.put, List.setIfInBounds_toArray, List.set_cons_zero, List.set_cons_succ]
            refine wpAnyH_take (i := 7) (oi := ⟨some 77, _, _, _, _, _⟩) (v := .agg #[.int .i64 (SM.2 : Nat), .int .i64 X.2.2.2.2]) rfl (by kernel_rfl) (by kernel_rfl) (by kernel_rfl) (fun _ _ _ h => h) (Or.inl ⟨by rfl, ?_⟩) (by assumption) ?_
            · intro V hV
              go_simp
              try rfl
            simp only [Act.put, List.setIfInBounds_toArray, List.set_cons_zero, List.set_cons_succ]
            have B0 := Lib.hid (H0.out.grew GN.out)
            have B1 := Lib.hid (H1.out.grew GN.out)
            refine wpAnyH_ready (rs := [8]) (by kernel_rfl) (by simp) ?_
            refine AllReadyH.cons (o := _) rfl (fun K hK => ?_) AllReadyH.nil
            refine wp_store_row 29 _ _ rfl w.heap.size zMsg rfl rfl 29 _ B0.out.drew (by kernel_rfl) rfl (by simp [zMsg, Value.oneCell']) ?_
            refine hK.out _ _ ((cell_setRow_other _ _ _ _ (Ne.symm hbne1)).trans hHeld) (fun h1 => ?_)
            clear hK K
            simp only [Act.put]
            refine wpAnyH_ready (rs := [9]) (by kernel_rfl) (by simp) ?_
            refine AllReadyH.cons (o := _) rfl (fun K hK => ?_) AllReadyH.nil
            refine wp_store_pair 32 _ _ rfl (w.heap.size + 1) _ _ rfl rfl 32 _ (B1.out.drew.rowOther (by omega)) (by kernel_rfl) rfl rfl rfl ?_
            refine hK.out _ _ ((cell_setRow_other _ _ _ _ (Ne.symm hbne2)).trans h1) (fun _ => ?_)
            clear hK K h1 hHeld
            simp only [Act.put]
            refine wpAnyH_done (by kernel_rfl) ?_ _
            have R0 := Lib.hid ((B0.out.drew.row zMsg).rowOther (b := w.heap.size + 1) (new := #[.int .i64 (SM.2 : Nat), .int .i64 X.2.2.2.2]) (by omega))
            have R1 := Lib.hid ((B1.out.drew.rowOther (b := w.heap.size) (new := zMsg) (by omega)).row #[.int .i64 (SM.2 : Nat), .int .i64 X.2.2.2.2])
            have R3 := Lib.hid (below_setRow (below_setRow ((H8.out.trans GN.out).trans (Drew.grew ⟨1, rfl⟩ : Grew _ wn.drew)) (Nat.le_refl _) zMsg) (show w.heap.size ≤ w.heap.size + 1 by omega) #[.int .i64 (SM.2 : Nat), .int .i64 X.2.2.2.2])
            have HSE := Lib.hid (show decM k ver l = (mZ, SM.2, X.2.2.2.2) by
              have h := decF_app k ver ((ps.take q).map (·.1)) (((X, Value.slice xa (fB X).length xc) :: ps.drop (q + 1)).map (·.1)) (m0 k) (by rw [H11.out])
              rw [← List.map_append, ← HDR.out, H11.out] at h
              rw [HS.out, h]
              have hst := decF_stop (l := (ps.drop (q + 1)).map (·.1)) HR.out (m := s) (by rw [← HSM.out]; exact HE2.out)
              rw [← HSM.out] at hst
              exact hst)
            simp only [onlyN]
            go_wp2
            exact post_of rfl (rd_err HSE.out R0.out R1.out R3.out _ rfl rfl)
          · have qe : ((SM.2 : Int) != 0) = false := by simp; omega
            have he2 : SM.2 = 0 := by omega
            have HE2 := Lib.hid he2
            have B3 := Lib.hid (H3.out.grew GN.out)
            have hsl2 : SM.1.l.length ≤ s.l.length + 1 := by
              have hh : (setM s r.2.2.1 r.2.2.2.1 X).2 = 0 := by rw [← HSM.out]; exact HE2.out
              rw [HSM.out]
              rcases set_parts hh with ⟨-, -, -, qq⟩ | ⟨-, -, -, -, qq⟩ | ⟨-, -, -, qq⟩
              · rw [qq]; simp
              · rw [qq]; exact Nat.le_succ _
              · rw [qq]; exact Nat.le_succ _
            obtain ⟨c0, c1, c2', c3, c4, c5, c6', c7, c8, c9⟩ := mcells KN.out
            have fz := fun j => B3.out.frozen j
            have f0 := fz 0
            have f1 := fz 1
            have f2 := fz 2
            have f3 := fz 3
            have f4 := fz 4
            have f5 := fz 5
            have f6 := fz 6
            have f7 := fz 7
            have f8 := fz 8
            have f9 := fz 9
            obtain ⟨o0, o1, o2, o3, o4, o5, o6, o7, o8, o9⟩ := mcells B3.out
            clear he he2 fz
            go_wp2
            refine ⟨⟨q + 1, SM.1, .slice a6 n6 c6, by omega, by go_num, chain_other (H0.out.grew GN.out) (by omega) SM.1 (.slice a6 n6 c6), chain_other (H1.out.grew GN.out) (by omega) SM.1 (.slice a6 n6 c6), chain_blk B3.out SM.1 (.slice a6 n6 c6), chain_own HO6.out (fun e => blk_ne_row B3.out HO6.out (by decide) e.symm) SM.1 (.slice a6 n6 c6), (H7.out.grew GN.out).keepT (KeepT.chain (S := RdT) (KeepT.refl wn) B3.out (by decide) SM.1 (.slice a6 n6 c6)) (by decide) (by decide), chain_below (H8.out.trans GN.out) (by omega) SM.1 (.slice a6 n6 c6), by omega, Lib.hid ?_⟩, ?_⟩
            · rw [HTS.out, List.map_append, decF_app _ _ _ _ _ (by rw [H11.out]), H11.out]
              have hst := decF_step (l := []) HR.out (m := s) (by rw [← HSM.out]; exact HE2.out)
              rw [← HSM.out] at hst
              exact hst
            · simp [intOf]; omega
        · go_simp
          refine hK.out _ _ (Grew.trans hHeld (grew_alloc _ _)) (fun hHa => ?_)
          clear hK K
          (try simp only [Act.put, List.setIfInBounds_toArray, List.set_cons_zero, List.set_cons_succ])
          refine wpAnyH_ready (rs := [6]) (by kernel_rfl) (by simp) ?_
          refine AllReadyH.cons (o := _) rfl (fun K hK => ?_) AllReadyH.nil
          go_simp
          refine (KSE.out _ hHa).mono ?_
          rintro e w6 ⟨v6, rfl, hv6, g6⟩
          obtain ⟨a6, n6, c6, rfl⟩ : ∃ a n c, v6 = .slice a n c := by
            rcases hv6 with ⟨rfl, -⟩ | h
            · exact ⟨_, _, _, rfl⟩
            · obtain ⟨a, c, e⟩ := tx_len (Sl.of_own h)
              exact ⟨a, _, c, e⟩
          have H6 := Lib.hid (Grew.trans hHa g6)
          have HV6 := Lib.hid hv6
          have G6 := Lib.hid g6
          clear hv6 g6
          go_simp
          refine hK.out _ _ H6.out (fun hH6 => ?_)
          clear hK K
          (try simp only [Act.put, List.setIfInBounds_toArray, List.set_cons_zero, List.set_cons_succ])
          refine wpAnyH_take (i := 7) (oi := ⟨some 58, _, _, _, _, _⟩) (v := .tuple #[.agg (msgA SM.1 (.slice a6 n6 c6)), .int .i64 (SM.2 : Nat)]) rfl (by kernel_rfl) (by kernel_rfl) (by kernel_rfl) (fun _ _ _ h => h) (Or.inl ⟨by rfl, ?_⟩) (by assumption) ?_
          · intro V hV
            go_simp
            try rfl
          simp only [Act.put, List.setIfInBounds_toArray, List.set_cons_zero, List.set_cons_succ]
          refine wpAnyH_take (i := 8) (oi := ⟨some 66, _, _, _, _, _⟩) (v := .agg (msgA SM.1 (.slice a6 n6 c6))) rfl (by kernel_rfl) (by kernel_rfl) (by kernel_rfl) (fun _ _ _ h => h) (Or.inl ⟨by rfl, ?_⟩) (by assumption) ?_
          · intro V hV
            go_simp
            try rfl
          simp only [Act.put, List.setIfInBounds_toArray, List.set_cons_zero, List.set_cons_succ]
          refine wpAnyH_take (i := 9) (oi := ⟨some 67, _, _, _, _, _⟩) (v := .int .i64 (SM.2 : Nat)) rfl (by kernel_rfl) (by kernel_rfl) (by kernel_rfl) (fun _ _ _ h => h) (Or.inl ⟨by rfl, ?_⟩) (by assumption) ?_
          · intro V hV
            go_simp
            try rfl
          simp only [Act.put, List.setIfInBounds_toArray, List.set_cons_zero, List.set_cons_succ]
          have hHz := H6.out
          refine wpAnyH_ready (rs := [11]) (by kernel_rfl) (by simp) ?_
          refine AllReadyH.cons (o := _) rfl (fun K hK => ?_) AllReadyH.nil
          have kz := ((Blk.new wb.drew 29 zMsg).grew G6.out)
          refine wp_store_row 29 _ _ rfl wb.heap.size (msgA SM.1 (.slice a6 n6 c6)) rfl rfl 29 _ kz (by kernel_rfl) rfl (msgA_one _ _ _ _) ?_
          refine hK.out _ _ (below_setRow hHz (by have := H6.out.size; simp at *; try omega) _) (fun hH7 => ?_)
          clear hK K
          simp only [Act.put]
          refine wpAnyH_take (i := 12) (oi := ⟨some 15, _, _, _, _, _⟩) (v := .int .i64 (SM.2 : Nat)) rfl (by kernel_rfl) (by kernel_rfl) (by kernel_rfl) (fun _ _ _ h => h) (Or.inl ⟨by rfl, ?_⟩) (by assumption) ?_
          · intro V hV
            go_simp
            try rfl
          simp only [Act.put, List.setIfInBounds_toArray]
          refine wpAnyH_done (by kernel_rfl) ?_ _
          obtain ⟨b4, hb4⟩ : ∃ b4, b4 = wb.heap.size := ⟨_, rfl⟩
          obtain ⟨wn, hwn⟩ : ∃ wn, wn = (w6).setRow wb.heap.size (msgA SM.1 (.slice a6 n6 c6)) := ⟨_, rfl⟩
          have hb4l : wb.heap.size ≤ b4 := by rw [hb4]; have := H6.out.size; simp at *; try omega
          have KN := Lib.hid (show Blk wn b4 29 (msgA SM.1 (.slice a6 n6 c6)) by rw [hwn, hb4]; exact kz.row _)
          have GN := Lib.hid (show Grew wr wn by rw [hwn]; exact GB.out.trans hH7)
          have HO6 := Lib.hid (show OwnT wn w.heap.size (.slice a6 n6 c6) SM.1.l by
            rw [hwn]
            have hz9 := H8.out.size
            have hz8 := GB.out.size
            rcases HV6.out with ⟨e1, e2⟩ | h
            · rw [e1, e2]
              have h := own_grew H5.out (GB.out.trans hHz)
              exact own_block h (fun g hg => setRow_other _ _ _ _ (fun e => blk_ne_row kz h (by decide) (by subst e; exact hg.symm)))
            · have h := own_mono (base' := w.heap.size) (h) (by simp at *; try omega)
              exact own_block h (fun g hg => setRow_other _ _ _ _ (fun e => blk_ne_row kz h (by decide) (by subst e; exact hg.symm))))
          rw [← hwn, ← hb4]
          clear hwn hb4 kz hH7 hHz hHeld hH6
          simp only [onlyN]
          have hz9 := H8.out.size
          have hz8 := GB.out.size
          have HNE4 := Lib.hid (show b4 ≠ w2.heap.size + 1 by omega)
          by_cases he : SM.2 ≠ 0
          · have qe : ((SM.2 : Int) != 0) = true := by simp; omega
            have HE2 := Lib.hid he
            have x4 := (below_ext GN.out) _ _ HXC.out.2.2.2.2
            clear he
            go_upto_region 16 with (fail)
            refine wp_region_heldN (S := fun V => V.cell? ⟨b, o + q * 5 + 4, none⟩ = some (.int .i64 X.2.2.2.2)) (by kernel_rfl) x4 (fun hHeld => ?_)
            clear x4
            refine wpAnyH_take (i := 0) (oi := ⟨some 70, _, _, _, _, _⟩) (v := .agg zMsg) rfl (by kernel_rfl) (by kernel_rfl) (by kernel_rfl) (fun _ _ _ h => h) (Or.inl ⟨by rfl, ?_⟩) (by assumption) ?_
            · intro V hV
              go_simp
              try rfl
            simp only [Act.put, List.setIfInBounds_toArray, List.set_cons_zero, List.set_cons_succ]
            refine wpAnyH_take (i := 1) (oi := ⟨some 71, _, _, _, _, _⟩) (v := .int .i64 (SM.2 : Nat)) rfl (by kernel_rfl) (by kernel_rfl) (by kernel_rfl) (fun _ _ _ h => h) (Or.inl ⟨by rfl, ?_⟩) (by assumption) ?_
            · intro V hV
              go_simp
              try rfl
            simp only [Act.put, List.setIfInBounds_toArray, List.set_cons_zero, List.set_cons_succ]
            refine wpAnyH_take (i := 2) (oi := ⟨some 72, _, _, _, _, _⟩) (v := .slice (some ⟨b, o, none⟩) ps.length c2) rfl (by kernel_rfl) (by kernel_rfl) (by kernel_rfl) (fun _ _ _ h => h) (Or.inl ⟨by rfl, ?_⟩) (by assumption) ?_
            · intro V hV
              go_simp
              try rfl
            simp only [Act.put, List.setIfInBounds_toArray, List.set_cons_zero, List.set_cons_succ]
            refine wpAnyH_take (i := 3) (oi := ⟨some 73, _, _, _, _, _⟩) (v := .int .i64 (q : Nat)) rfl (by kernel_rfl) (by kernel_rfl) (by kernel_rfl) (fun _ _ _ h => h) (Or.inl ⟨by rfl, ?_⟩) (by assumption) ?_
            · intro V hV
              go_simp
              try rfl
            simp only [Act.put, List.setIfInBounds_toArray, List.set_cons_zero, List.set_cons_succ]
            refine wpAnyH_take (i := 4) (oi := ⟨some 74, _, _, _, _, _⟩) (v := .pointer (some ⟨b, o + q * 5, none⟩)) rfl (by kernel_rfl) (by kernel_rfl) (by kernel_rfl) (fun _ _ _ h => h) (Or.inl ⟨by rfl, ?_⟩) (by assumption) ?_
            · intro V hV
              go_simp
              try rfl
            simp only [Act.put, List.setIfInBounds_toArray, List.set_cons_zero, List.set_cons_succ]
            refine wpAnyH_take (i := 5) (oi := ⟨some 75, _, _, _, _, _⟩) (v := .pointer (some ⟨b, o + q * 5 + 4, none⟩)) rfl (by kernel_rfl) (by kernel_rfl) (by kernel_rfl) (fun _ _ _ h => h) (Or.inl ⟨by rfl, ?_⟩) (by assumption) ?_
            · intro V hV
              go_simp
              try rfl
            simp only [Act.put, List.setIfInBounds_toArray, List.set_cons_zero, List.set_cons_succ]
            refine wpAnyH_take (i := 6) (oi := ⟨some 76, _, _, _, _, _⟩) (v := .int .i64 X.2.2.2.2) rfl (by kernel_rfl) (by kernel_rfl) (by kernel_rfl) (fun _ _ _ h => h) (Or.inl ⟨by rfl, ?_⟩) (by assumption) ?_
            · intro V hV
              go_simp
              try rfl
            simp only [Act.put, List.setIfInBounds_toArray, List.set_cons_zero, List.set_cons_succ]
            refine wpAnyH_take (i := 7) (oi := ⟨some 77, _, _, _, _, _⟩) (v := .agg #[.int .i64 (SM.2 : Nat), .int .i64 X.2.2.2.2]) rfl (by kernel_rfl) (by kernel_rfl) (by kernel_rfl) (fun _ _ _ h => h) (Or.inl ⟨by rfl, ?_⟩) (by assumption) ?_
            · intro V hV
              go_simp
              try rfl
            simp only [Act.put, List.setIfInBounds_toArray, List.set_cons_zero, List.set_cons_succ]
            have B0 := Lib.hid (H0.out.grew GN.out)
            have B1 := Lib.hid (H1.out.grew GN.out)
            refine wpAnyH_ready (rs := [8]) (by kernel_rfl) (by simp) ?_
            refine AllReadyH.cons (o := _) rfl (fun K hK => ?_) AllReadyH.nil
            refine wp_store_row 29 _ _ rfl w.heap.size zMsg rfl rfl 29 _ B0.out.drew (by kernel_rfl) rfl (by simp [zMsg, Value.oneCell']) ?_
            refine hK.out _ _ ((cell_setRow_other _ _ _ _ (Ne.symm hbne1)).trans hHeld) (fun h1 => ?_)
            clear hK K
            simp only [Act.put]
            refine wpAnyH_ready (rs := [9]) (by kernel_rfl) (by simp) ?_
            refine AllReadyH.cons (o := _) rfl (fun K hK => ?_) AllReadyH.nil
            refine wp_store_pair 32 _ _ rfl (w.heap.size + 1) _ _ rfl rfl 32 _ (B1.out.drew.rowOther (by omega)) (by kernel_rfl) rfl rfl rfl ?_
            refine hK.out _ _ ((cell_setRow_other _ _ _ _ (Ne.symm hbne2)).trans h1) (fun _ => ?_)
            clear hK K h1 hHeld
            simp only [Act.put]
            refine wpAnyH_done (by kernel_rfl) ?_ _
            have R0 := Lib.hid ((B0.out.drew.row zMsg).rowOther (b := w.heap.size + 1) (new := #[.int .i64 (SM.2 : Nat), .int .i64 X.2.2.2.2]) (by omega))
            have R1 := Lib.hid ((B1.out.drew.rowOther (b := w.heap.size) (new := zMsg) (by omega)).row #[.int .i64 (SM.2 : Nat), .int .i64 X.2.2.2.2])
            have R3 := Lib.hid (below_setRow (below_setRow ((H8.out.trans GN.out).trans (Drew.grew ⟨1, rfl⟩ : Grew _ wn.drew)) (Nat.le_refl _) zMsg) (show w.heap.size ≤ w.heap.size + 1 by omega) #[.int .i64 (SM.2 : Nat), .int .i64 X.2.2.2.2])
            have HSE := Lib.hid (show decM k ver l = (mZ, SM.2, X.2.2.2.2) by
              have h := decF_app k ver ((ps.take q).map (·.1)) (((X, Value.slice xa (fB X).length xc) :: ps.drop (q + 1)).map (·.1)) (m0 k) (by rw [H11.out])
              rw [← List.map_append, ← HDR.out, H11.out] at h
              rw [HS.out, h]
              have hst := decF_stop (l := (ps.drop (q + 1)).map (·.1)) HR.out (m := s) (by rw [← HSM.out]; exact HE2.out)
              rw [← HSM.out] at hst
              exact hst)
            simp only [onlyN]
            go_wp2
            exact post_of rfl (rd_err HSE.out R0.out R1.out R3.out _ rfl rfl)
          · have qe : ((SM.2 : Int) != 0) = false := by simp; omega
            have he2 : SM.2 = 0 := by omega
            have HE2 := Lib.hid he2
            have B3 := Lib.hid (H3.out.grew GN.out)
            have hsl2 : SM.1.l.length ≤ s.l.length + 1 := by
              have hh : (setM s r.2.2.1 r.2.2.2.1 X).2 = 0 := by rw [← HSM.out]; exact HE2.out
              rw [HSM.out]
              rcases set_parts hh with ⟨-, -, -, qq⟩ | ⟨-, -, -, -, qq⟩ | ⟨-, -, -, qq⟩
              · rw [qq]; simp
              · rw [qq]; exact Nat.le_succ _
              · rw [qq]; exact Nat.le_succ _
            obtain ⟨c0, c1, c2', c3, c4, c5, c6', c7, c8, c9⟩ := mcells KN.out
            have fz := fun j => B3.out.frozen j
            have f0 := fz 0
            have f1 := fz 1
            have f2 := fz 2
            have f3 := fz 3
            have f4 := fz 4
            have f5 := fz 5
            have f6 := fz 6
            have f7 := fz 7
            have f8 := fz 8
            have f9 := fz 9
            obtain ⟨o0, o1, o2, o3, o4, o5, o6, o7, o8, o9⟩ := mcells B3.out
            clear he he2 fz
            go_wp2
            refine ⟨⟨q + 1, SM.1, .slice a6 n6 c6, by omega, by go_num, chain_other (H0.out.grew GN.out) (by omega) SM.1 (.slice a6 n6 c6), chain_other (H1.out.grew GN.out) (by omega) SM.1 (.slice a6 n6 c6), chain_blk B3.out SM.1 (.slice a6 n6 c6), chain_own HO6.out (fun e => blk_ne_row B3.out HO6.out (by decide) e.symm) SM.1 (.slice a6 n6 c6), (H7.out.grew GN.out).keepT (KeepT.chain (S := RdT) (KeepT.refl wn) B3.out (by decide) SM.1 (.slice a6 n6 c6)) (by decide) (by decide), chain_below (H8.out.trans GN.out) (by omega) SM.1 (.slice a6 n6 c6), by omega, Lib.hid ?_⟩, ?_⟩
            · rw [HTS.out, List.map_append, decF_app _ _ _ _ _ (by rw [H11.out]), H11.out]
              have hst := decF_step (l := []) HR.out (m := s) (by rw [← HSM.out]; exact HE2.out)
              rw [← HSM.out] at hst
              exact hst
            · simp [intOf]; omega
    · obtain rfl : q = ps.length := by omega
      have HS2 := Lib.hid (show decM k ver l = (s, 0, 0) by have h := H11.out; rw [List.take_length] at h; rw [HS.out]; exact h)
      obtain ⟨c0, c1, c2', c3, c4, c5, c6, c7, c8, c9⟩ := mcells H3.out
      obtain ⟨o0, o1, o2, o3, o4, o5, o6, o7, o8, o9⟩ := mcells (show Blk wr w.heap.size 29 (msgA mZ (.slice none 0 0)) from H0.out)
      have fz := fun j => (H0.out).frozen j
      have f0 := fz 0
      have f1 := fz 1
      have f2 := fz 2
      have f3 := fz 3
      have f4 := fz 4
      have f5 := fz 5
      have f6 := fz 6
      have f7 := fz 7
      have f8 := fz 8
      have f9 := fz 9
      obtain ⟨u0, u1, u2, u3⟩ := cells_of H1.out
      clear fz
      go_wp2
      exact post_of rfl (rd_done HS2.out H0.out H1.out H5.out H8.out _ rfl rfl)
end Go.Proofs.YtbjoohafgkodcaaGreat
