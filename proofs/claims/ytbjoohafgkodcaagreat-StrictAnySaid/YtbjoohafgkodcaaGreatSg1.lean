/- rescriptref12.Decode: contract. -/
import Derived.Test.YtbjoohafgkodcaaGreatSs3
import Derived.Test.YtbjoohafgkodcaaGreatWl7
import Derived.Test.YtbjoohafgkodcaaGreatEn9
import Derived.BigQuiet
namespace Go.Proofs.YtbjoohafgkodcaaGreat
open Go Go.RowKit Go.Shelf
attribute [local go_sem] Oper.semAt_some

theorem mostV_8000 (t : Int) : mostV t ≤ 7000 := by
  unfold mostV
  repeat' split
  all_goals omega
/-- a message that may be is small -/
theorem chk_small {m : Msg} {ver : Int} (h : (chkM m (ofKind m.k (rowsIn ver))).1 = 0) : smallB m = true := by
  obtain ⟨he, hs⟩ := chk_oks h
  obtain ⟨-, -, es, el⟩ := sameB_iff.1 hs
  have key : hasL (ofKind m.k (rowsIn ver)) = true → (∀ s ∈ m.l, s.size ≤ 200) ∧ m.l.length ≤ 70 := fun hL => by
    obtain ⟨r, hr, h10⟩ := (hasL_iff' _).1 hL
    have e10 : rTyp r = 10 := by have := rows_ok r (ofKind_sub hr).1; omega
    have h' := he r hr
    unfold errR errM at h'
    rw [e10, if_neg (by omega), if_neg (by decide)] at h'
    have hp : plL m ((10 : Nat) : Int) = m.l := rfl
    rw [hp] at h'
    by_cases hl : 64 < m.l.length
    · rw [if_pos hl] at h'; simp at h'
    rw [if_neg hl] at h'
    exact ⟨fun s hs => by have h1 := chkV_sz (firstE0 h' s hs); have h2 : mostV ((10 : Nat) : Int) = 64 := rfl; omega, by omega⟩
  have ekl : (if hasL (ofKind m.k (rowsIn ver)) = true then m.l else []) = m.l := el
  have k2 : (∀ s ∈ m.l, s.size ≤ 200) ∧ m.l.length ≤ 70 := by
    by_cases hL : hasL (ofKind m.k (rowsIn ver)) = true
    · exact key hL
    · rw [if_neg hL] at ekl
      rw [← ekl]
      exact ⟨fun s hs => (by cases hs), Nat.zero_le _⟩
  have ks : ∀ i, i < 2 → (m.s i).size ≤ 8000 := fun i hi => by
    have e : (if hasS (ofKind m.k (rowsIn ver)) i = true then m.s i else ⟨#[]⟩) = m.s i := es i hi
    by_cases hS : hasS (ofKind m.k (rowsIn ver)) i = true
    · obtain ⟨r, hr, h7, h9, hsl⟩ := (hasS_iff' _ _).1 hS
      have h' := he r hr
      have hx : txtB (rTyp r : Int) = true := (txtB_nat' _).2 ⟨h7, h9⟩
      unfold errR errM at h'
      rw [if_neg (by omega), if_pos hx, hsl] at h'
      have h1 := chkV_sz h'
      have h2 := mostV_8000 (rTyp r : Int)
      have h3 : plS m (rTyp r : Int) (i : Int) = m.s i := by unfold plS; rw [if_pos ⟨hx, by omega, by omega⟩]; simp
      rw [h3] at h1
      omega
    · rw [if_neg hS] at e
      rw [← e]
      exact Nat.zero_le _
  rw [small_yes (by have := ks 0 (by omega); omega) (by have := ks 1 (by omega); omega) (by have := k2.2; omega)]
  simpa using k2.1
theorem str_un {k : Nat} {ver : Int} {l : List UInt8} (h : (decM k ver l).2.1 = 0) :
    strM k ver l = if unlikeM l (msgB (decM k ver l).1 (ofKind k (rowsIn ver))) < 0 then ((decM k ver l).1, 0, 0) else (mZ, 3, unlikeM l (msgB (decM k ver l).1 (ofKind k (rowsIn ver)))) := by
  have hb : bothM k ver l = ((decM k ver l).1, msgB (decM k ver l).1 (ofKind k (rowsIn ver)), 0, 0) := by unfold bothM; rw [if_neg (by omega)]
  rw [str_both, hb, if_neg (by simp)]
theorem fix_len8 {k : Nat} {ver : Int} {b : List UInt8} (h : (decM k ver b).2.1 = 0) : (msgB (decM k ver b).1 (ofKind k (rowsIn ver))).length ≤ 8192 := by
  obtain ⟨h1, h2, h3⟩ := dec_good h
  have := (small_msg (m := (decM k ver b).1) (ver := ver) (by rw [h1, h2]) h3).2.1
  rw [h1] at this; exact this
theorem r12_done {w W : World} {Z : Msg × Nat × Int} {m0 : Msg} {lv lv0 x y : Value} (h0 : Blk W w.heap.size 29 (msgA m0 lv0)) (h1 : Blk W (w.heap.size + 1) 32 #[x, y]) (ho : OwnT W w.heap.size lv Z.1.l) (hg : Grew w W)
    (n0 : lv.ownBlock ≠ some w.heap.size) (n1 : lv.ownBlock ≠ some (w.heap.size + 1))
    (tmps : Array Value) (t0 : tmps.getD 6 undef = .pointer (some ⟨w.heap.size, 0, none⟩)) (t1 : tmps.getD 7 undef = .pointer (some ⟨w.heap.size + 1, 0, none⟩)) :
    ∃ v, (results Tryz.f9 tmps).run Tryz.prog (doneF W w.heap.size Z.1 lv Z.2.1 Z.2.2) = .ok v (doneF W w.heap.size Z.1 lv Z.2.1 Z.2.2) ∧ (∃ lv', Ending.returned v = .returned (.tuple #[.agg (msgA Z.1 lv'), fltI Z.2.1 Z.2.2]) ∧ OwnT (doneF W w.heap.size Z.1 lv Z.2.1 Z.2.2) w.heap.size lv' Z.1.l ∧ Grew w (doneF W w.heap.size Z.1 lv Z.2.1 Z.2.2)) := by
  obtain ⟨z1, z2, z3⟩ := msg_done (P := Tryz.prog) (fn := Tryz.f9) rfl (s := Z.1) (lv := lv) (e := Z.2.1) (q := Z.2.2) h0 h1 ho hg n0 n1 tmps t0 t1 rfl
  exact ⟨_, z1, lv, rfl, z2, z3⟩
set_option maxRecDepth 100000 in
set_option maxHeartbeats 8000000 in
theorem r12decode_any (k : Nat) (ver : Int) (l : List UInt8) (v : Value) (w : World) (hb : Bs w v l) (hlen : l.length ≤ 100000) :
    Calls Tryz.prog 9 #[.int .u8 k, .int .i64 ver, v] w (StrP k ver l w) := by
  obtain ⟨a, c, rfl⟩ := bs_len hb
  obtain ⟨W0, hW0⟩ : ∃ W0, W0 = (w.alloc (.cells zMsg 29)).alloc (.cells #[.int .i64 0, .int .i64 0] 32) := ⟨_, rfl⟩
  have g0 : Grew w W0 := by rw [hW0]; exact ((Below.refl _ _).alloc (Nat.le_refl _) _).alloc (by simp) _
  have k0 : Blk W0 w.heap.size 29 zMsg := by rw [hW0]; exact (Blk.new _ _ _).alloc _
  have k1 : Blk W0 (w.heap.size + 1) 32 #[.int .i64 0, .int .i64 0] := by rw [hW0]; exact Blk.at (by simp)
  have G0 := Lib.hid g0
  have K0 := Lib.hid k0
  have K1 := Lib.hid k1
  have KR := Lib.hid (rdecode_any k ver l _ W0 (hb.grew g0) (by omega))
  have HERR := Lib.hid (fun h => str_err (k := k) (ver := ver) (b := l) h)
  have HUN := Lib.hid (fun h => str_un (k := k) (ver := ver) (l := l) h)
  have HGD := Lib.hid (fun h => dec_good (k := k) (ver := ver) (b := l) h)
  have HBL := Lib.hid (fun h => fix_len8 (k := k) (ver := ver) (b := l) h)
  obtain ⟨D, hD⟩ : ∃ D, D = decM k ver l := ⟨_, rfl⟩
  unfold DecP at KR
  unfold StrP
  rw [← hD] at KR HERR HUN
  rw [← hD] at HGD HBL
  have HB := Lib.hid (hb.grew g0)
  generalize strM k ver l = Z at HERR HUN ⊢
  obtain ⟨Dm, De, Da⟩ := D
  simp only [zMsg] at hW0
  clear g0 k0 k1 hb hD
  go_enter Tryz.func9, Tryz.ntmps9
  go_wp2_with fail
  rw [← hW0]
  clear hW0
  refine KR.out.mono ?_
  rintro e w1 ⟨lv, rfl, ho, g1⟩
  obtain ⟨al, cl, rfl⟩ := tx_len (Sl.of_own ho)
  simp only [fltI]
  obtain ⟨wa, hwa⟩ : ∃ wa, wa = (w1.alloc (.cells (msgA Dm (.slice al Dm.l.length cl)) 29)).alloc (.cells #[.int .i64 (De : Nat), .int .i64 Da] 32) := ⟨_, rfl⟩
  have ga : Grew w1 wa := by rw [hwa]; exact grew22 _ _ _
  have ka : Blk wa w1.heap.size 29 (msgA Dm (.slice al Dm.l.length cl)) := by rw [hwa]; exact (Blk.new _ _ _).alloc _
  have kb : Blk wa (w1.heap.size + 1) 32 #[.int .i64 (De : Nat), .int .i64 Da] := by rw [hwa]; exact Blk.at (by simp)
  have B0 := Lib.hid ((K0.out.grew g1).grew ga)
  have B1 := Lib.hid ((K1.out.grew g1).grew ga)
  have HO := Lib.hid (own_grew ho ga)
  have HL := Lib.hid ((HB.out.grew g1).grew ga)
  have GA := Lib.hid ((G0.out.trans g1).trans ga)
  have hz1 : w.heap.size + 1 < w1.heap.size := (K1.out.grew g1).lt
  have hbo := own_lt ho
  have HBO := Lib.hid hbo
  have hw0 : w.heap.size + 1 < W0.heap.size := K1.out.lt
  have e0 : wa.cell? ⟨w1.heap.size + 1, 0, none⟩ = some (.int .i64 (De : Nat)) := kb.cell 0
  simp only [msgA] at hwa ⊢
  clear ga ho g1 hbo
  go_upto_region 2 with (fail)
  rw [← hwa]
  clear hwa
  by_cases hE : De ≠ 0
  · have hne : ((De : Nat) : Int) ≠ 0 := by omega
    have hZ : Z = (mZ, De, Da) := HERR.out hE
    subst hZ
    go_upto_region 3 with (fail)
    refine wp_region_heldN (S := fun V => Blk V (w1.heap.size + 1) 32 #[.int .i64 (De : Nat), .int .i64 Da]) (by kernel_rfl) kb.drew (fun hHeld => ?_)
    refine wpAnyH_take (i := 0) (oi := _) (v := .agg (msgA mZ (.slice none 0 0))) rfl (by kernel_rfl) (by kernel_rfl) (by kernel_rfl) (fun _ _ _ h => h) (Or.inl ⟨by rfl, fun V _ => by kernel_rfl⟩) (by assumption) ?_
    (try simp only [Act.put, List.setIfInBounds_toArray])
    refine wpAnyH_take (i := 1) (oi := ⟨some 24, _, _, _, _, _⟩) (v := .agg #[.int .i64 (De : Nat), .int .i64 Da]) rfl (by kernel_rfl) (by kernel_rfl) (by kernel_rfl) (fun _ _ _ h => h) (y_row 32 _ rfl (w1.heap.size + 1) rfl 32 _ _ (fun V h => h) Tryz.underlying32 rfl (by kernel_rfl) rfl) (by assumption) ?_
    (try simp only [Act.put])
    refine wpAnyH_ready (rs := [2]) (by kernel_rfl) (by simp) ?_
    refine AllReadyH.cons (o := _) rfl (fun K hK => ?_) AllReadyH.nil
    refine wp_store_row 29 _ _ rfl w.heap.size (msgA mZ (.slice none 0 0)) rfl rfl 29 _ B0.out.drew (by kernel_rfl) rfl (msgA_one _ _ _ _) ?_
    refine hK.out _ _ (hHeld.rowOther (by omega)) (fun h1 => ?_)
    clear hK K hHeld
    simp only [Act.put]
    refine wpAnyH_ready (rs := [3]) (by kernel_rfl) (by simp) ?_
    refine AllReadyH.cons (o := _) rfl (fun K hK => ?_) AllReadyH.nil
    refine wp_store_pair 32 _ _ rfl (w.heap.size + 1) _ _ rfl rfl 32 _ (B1.out.drew.rowOther (by omega)) (by kernel_rfl) rfl rfl rfl ?_
    refine hK.out _ _ (h1.rowOther (by omega)) (fun _ => ?_)
    clear hK K h1
    simp only [Act.put]
    refine wpAnyH_done (by kernel_rfl) ?_ _
    have R0 := Lib.hid ((B0.out.drew.row (msgA mZ (.slice none 0 0))).rowOther (b := w.heap.size + 1) (new := #[.int .i64 (De : Nat), .int .i64 Da]) (by omega))
    have R1 := Lib.hid ((B1.out.drew.rowOther (b := w.heap.size) (new := msgA mZ (.slice none 0 0)) (by omega)).row #[.int .i64 (De : Nat), .int .i64 Da])
    have R3 := Lib.hid (below_setRow (below_setRow (GA.out.trans (Drew.grew ⟨1, rfl⟩ : Grew _ wa.drew)) (Nat.le_refl _) (msgA mZ (.slice none 0 0))) (show w.heap.size ≤ w.heap.size + 1 by omega) #[.int .i64 (De : Nat), .int .i64 Da])
    simp only [onlyN]
    go_wp2
    refine bodyPost_ret (results_cc rfl _ _ _ _ _ _ rfl rfl (loadVar_msg _ _ _ _ R0.out) (loadVar_fltI _ _ _ _ R1.out)) rfl ?_
    exact ⟨_, rfl, World.ownsRow_nil _ _ _ _, R3.out⟩
  have hne : De = 0 := by omega
  subst hne
  obtain ⟨gk0, gc0, gn0⟩ := HGD.out rfl
  have gk : Dm.k = k := gk0
  have gc : chkM Dm (ofKind k (rowsIn ver)) = (0, 0) := gc0
  have gn : ∀ i, i < 6 → Dm.n i < 18446744073709551616 := gn0
  have hun0 := HUN.out rfl
  have hbl0 := HBL.out rfl
  clear gk0 gc0 gn0
  have hsm : smallB Dm = true := chk_small (ver := ver) (by rw [gk, gc])
  have KE := Lib.hid (r10bytes_any Dm al cl ver wa hsm gn (Sl.of_own HO.out))
  rw [gk, gc] at KE
  obtain ⟨B, hB⟩ : ∃ B, B = msgB Dm (ofKind k (rowsIn ver)) := ⟨_, rfl⟩
  rw [← hB] at KE
  have hun : Z = if unlikeM l B < 0 then (Dm, 0, 0) else (mZ, 3, unlikeM l B) := by rw [hB]; exact hun0
  have hbl : B.length ≤ 8192 := by rw [hB]; exact hbl0
  have HZ := Lib.hid hun
  simp only [msgA, fltV, Int.natCast_zero] at KE
  have KA := Lib.hid ka
  have HSZ := Lib.hid (show w.heap.size ≤ W0.heap.size by omega)
  obtain ⟨c0, c1, c2, c3, c4, c5, c6, c7, c8, c9⟩ := mcells ka
  clear ka kb gk gc gn hun hun0 hbl0 hB hsm hE HERR HUN HGD HBL
  go_wp2_with fail
  refine KE.out.mono ?_
  rintro e w3 ⟨ov, rfl, ho3, g3⟩
  obtain ⟨ao, co, rfl⟩ := bs_len (Sl.of_own ho3)
  obtain ⟨V3, hV3⟩ : ∃ V, V = w3.alloc (.cells #[.int .i64 0, .int .i64 0] 32) := ⟨_, rfl⟩
  have gv : Grew w3 V3 := by rw [hV3]; exact grew_alloc _ _
  have G3 := Lib.hid (g3.trans gv)
  have HU := Lib.hid (Sl.of_own (own_grew ho3 gv))
  have HL3 := Lib.hid (HL.out.grew G3.out)
  clear gv ho3 g3 c0 c1 c2 c3 c4 c5 c6 c7 c8 c9 e0 KE
  go_upto_region 5 with (fail)
  rw [← hV3]
  clear hV3
  go_wp2_with fail
  go_loopw [12] (fun ix wr => ∃ j : Nat, ix = .int .i64 j ∧ j ≤ l.length ∧ j ≤ B.length ∧ RowKit.Hid (l.take j = B.take j) ∧ Drew V3 wr) (fun ix _ => l.length - (intOf ix).toNat)
  case atStart => exact ⟨0, rfl, Nat.zero_le _, Nat.zero_le _, Lib.hid (by simp), Drew.refl _⟩
  case round =>
    obtain ⟨j, rfl, hjl, hjb, ht, hd⟩ := hrel
    have z0 : (0 : Int) ≤ (j : Int) := by omega
    by_cases hla : j < l.length
    · have z1 : (j : Int) < (l.length : Int) := by omega
      by_cases hlb : j < B.length
      · have z2 : (j : Int) < (B.length : Int) := by omega
        obtain ⟨a', c', e', -, -, -, ah⟩ := (HL3.out.grew hd.grew).open
        cases e'
        obtain ⟨ba, oa, rfl, p1⟩ := ah (by omega)
        obtain ⟨a', c', e', -, -, -, bh⟩ := (HU.out.grew hd.grew).open
        cases e'
        obtain ⟨bb, ob, rfl, p2⟩ := bh (by omega)
        have x1 := p1 j _ (bv_get l j hla)
        have x2 := p2 j _ (bv_get B j hlb)
        clear ah bh p1 p2
        by_cases hq : l[j] = B[j]
        · have hu2 : (((l[j]).toNat : Int) == ((B[j]).toNat : Int)) = true := by rw [hq]; simp
          have ht2 := Lib.hid (take_succ_eq l B j hla hlb ht.out hq)
          clear hq ht
          go_wp2
          refine wp_region_quiet_lit (by kernel_rfl) (by kernel_rfl) ?_
          repeat (first | go_big_quiet_step (fail) | quiet_step (fail))
          refine wpQuiet_nil ?_
          rintro _ ⟨nq, rfl⟩
          go_wp2
          go_roundw
          case rel => exact ⟨j + 1, by go_num, by omega, by omega, ht2, hd.more _⟩
          case measure => simp [intOf]; omega
        · have hu2 : (((l[j]).toNat : Int) == ((B[j]).toNat : Int)) = false := by
            rw [beq_eq_false_iff_ne]
            intro h
            exact hq (UInt8.toNat_inj.1 (by omega))
          have HU9 := Lib.hid (unlike_at (a := l) (b := B) (k := j) hjl hjb ht.out (.inr (.inr ⟨hla, by rw [List.getElem?_eq_getElem hla, List.getElem?_eq_getElem hlb]; intro h; exact hq (Option.some.inj h)⟩)))
          clear hq ht
          go_wp2
          refine wp_region_quiet_lit (by kernel_rfl) (by kernel_rfl) ?_
          repeat (first | go_big_quiet_step (fail) | quiet_step (fail))
          refine wpQuiet_nil ?_
          rintro _ ⟨nq, rfl⟩
          have GW := Lib.hid ((G3.out.trans hd.grew).trans (Drew.grew ⟨nq, rfl⟩ : Grew wr (wr.drewN nq)))
          generalize wr.drewN nq = W5 at GW ⊢
          have B03 := Lib.hid (B0.out.grew GW.out)
          have B13 := Lib.hid (B1.out.grew GW.out)
          have GA3 := Lib.hid (GA.out.trans GW.out)
          obtain ⟨o0, o1, o2, o3, o4, o5, o6, o7, o8, o9⟩ := mcells (show Blk W5 w.heap.size 29 (msgA mZ (.slice none 0 0)) from B03.out)
          have fz := fun i => (B03.out).frozen i
          have f0 := fz 0
          have f1 := fz 1
          have f2 := fz 2
          have f3 := fz 3
          have f4 := fz 4
          have f5 := fz 5
          have f6 := fz 6
          have f7 := fz 7
          have f8 := fz 8
          have f9 := fz 9
          obtain ⟨q0, q1, q2, q3⟩ := cells_of B13.out
          clear fz
          have hZ : Z = (mZ, 3, (j : Int)) := by rw [HZ.out, HU9.out, if_neg (by omega)]
          subst hZ
          go_wp2
          exact post_of rfl (r12_done (Z := (mZ, 3, (j : Int))) (m0 := mZ) (lv0 := .slice none 0 0) B03.out B13.out (World.ownsRow_nil _ _ _ _) GA3.out (by simp [Value.ownBlock]) (by simp [Value.ownBlock]) _ rfl rfl)
      · have z2 : ¬ (j : Int) < (B.length : Int) := by omega
        have HU9 := Lib.hid (unlike_at (a := l) (b := B) (k := j) hjl hjb ht.out (.inr (.inl ⟨by omega, by omega⟩)))
        go_wp2
        refine wp_region_quiet_lit (by kernel_rfl) (by kernel_rfl) ?_
        repeat (first | go_big_quiet_step (fail) | quiet_step (fail))
        refine wpQuiet_nil ?_
        rintro _ ⟨nq, rfl⟩
        have GW := Lib.hid ((G3.out.trans hd.grew).trans (Drew.grew ⟨nq, rfl⟩ : Grew wr (wr.drewN nq)))
        generalize wr.drewN nq = W5 at GW ⊢
        have B03 := Lib.hid (B0.out.grew GW.out)
        have B13 := Lib.hid (B1.out.grew GW.out)
        have GA3 := Lib.hid (GA.out.trans GW.out)
        obtain ⟨o0, o1, o2, o3, o4, o5, o6, o7, o8, o9⟩ := mcells (show Blk W5 w.heap.size 29 (msgA mZ (.slice none 0 0)) from B03.out)
        have fz := fun i => (B03.out).frozen i
        have f0 := fz 0
        have f1 := fz 1
        have f2 := fz 2
        have f3 := fz 3
        have f4 := fz 4
        have f5 := fz 5
        have f6 := fz 6
        have f7 := fz 7
        have f8 := fz 8
        have f9 := fz 9
        obtain ⟨q0, q1, q2, q3⟩ := cells_of B13.out
        clear fz
        have hZ : Z = (mZ, 3, (j : Int)) := by rw [HZ.out, HU9.out, if_neg (by omega)]
        subst hZ
        go_wp2
        exact post_of rfl (r12_done (Z := (mZ, 3, (j : Int))) (m0 := mZ) (lv0 := .slice none 0 0) B03.out B13.out (World.ownsRow_nil _ _ _ _) GA3.out (by simp [Value.ownBlock]) (by simp [Value.ownBlock]) _ rfl rfl)
    · have z1 : ¬ (j : Int) < (l.length : Int) := by omega
      by_cases hlb : j < B.length
      · have z2 : (j : Int) < (B.length : Int) := by omega
        have HU9 := Lib.hid (unlike_at (a := l) (b := B) (k := j) hjl hjb ht.out (.inl ⟨by omega, by omega⟩))
        go_wp2
        refine wp_region_quiet_lit (by kernel_rfl) (by kernel_rfl) ?_
        repeat (first | go_big_quiet_step (fail) | quiet_step (fail))
        refine wpQuiet_nil ?_
        rintro _ ⟨nq, rfl⟩
        have GW := Lib.hid ((G3.out.trans hd.grew).trans (Drew.grew ⟨nq, rfl⟩ : Grew wr (wr.drewN nq)))
        generalize wr.drewN nq = W5 at GW ⊢
        have B03 := Lib.hid (B0.out.grew GW.out)
        have B13 := Lib.hid (B1.out.grew GW.out)
        have GA3 := Lib.hid (GA.out.trans GW.out)
        obtain ⟨o0, o1, o2, o3, o4, o5, o6, o7, o8, o9⟩ := mcells (show Blk W5 w.heap.size 29 (msgA mZ (.slice none 0 0)) from B03.out)
        have fz := fun i => (B03.out).frozen i
        have f0 := fz 0
        have f1 := fz 1
        have f2 := fz 2
        have f3 := fz 3
        have f4 := fz 4
        have f5 := fz 5
        have f6 := fz 6
        have f7 := fz 7
        have f8 := fz 8
        have f9 := fz 9
        obtain ⟨q0, q1, q2, q3⟩ := cells_of B13.out
        clear fz
        have hZ : Z = (mZ, 3, (j : Int)) := by rw [HZ.out, HU9.out, if_neg (by omega)]
        subst hZ
        go_wp2
        exact post_of rfl (r12_done (Z := (mZ, 3, (j : Int))) (m0 := mZ) (lv0 := .slice none 0 0) B03.out B13.out (World.ownsRow_nil _ _ _ _) GA3.out (by simp [Value.ownBlock]) (by simp [Value.ownBlock]) _ rfl rfl)
      · have z2 : ¬ (j : Int) < (B.length : Int) := by omega
        have HU9 := Lib.hid (unlike_none (a := l) (b := B) (k := j) (by omega) (by omega) ht.out)
        go_wp2
        refine wp_region_quiet_lit (by kernel_rfl) (by kernel_rfl) ?_
        repeat (first | go_big_quiet_step (fail) | quiet_step (fail))
        refine wpQuiet_nil ?_
        rintro _ ⟨nq, rfl⟩
        have GW := Lib.hid ((G3.out.trans hd.grew).trans (Drew.grew ⟨nq, rfl⟩ : Grew wr (wr.drewN nq)))
        generalize wr.drewN nq = W5 at GW ⊢
        have B03 := Lib.hid (B0.out.grew GW.out)
        have B13 := Lib.hid (B1.out.grew GW.out)
        have GA3 := Lib.hid (GA.out.trans GW.out)
        obtain ⟨o0, o1, o2, o3, o4, o5, o6, o7, o8, o9⟩ := mcells (show Blk W5 w.heap.size 29 (msgA mZ (.slice none 0 0)) from B03.out)
        have fz := fun i => (B03.out).frozen i
        have f0 := fz 0
        have f1 := fz 1
        have f2 := fz 2
        have f3 := fz 3
        have f4 := fz 4
        have f5 := fz 5
        have f6 := fz 6
        have f7 := fz 7
        have f8 := fz 8
        have f9 := fz 9
        obtain ⟨q0, q1, q2, q3⟩ := cells_of B13.out
        clear fz
        have hZ : Z = (Dm, 0, 0) := by rw [HZ.out, HU9.out, if_pos (by omega)]
        subst hZ
        have KA3 := Lib.hid (KA.out.grew GW.out)
        have HO3 := Lib.hid (own_mono (own_grew HO.out GW.out) HSZ.out)
        have N0 := Lib.hid (show (Value.slice al Dm.l.length cl).ownBlock ≠ some w.heap.size from fun e => absurd (HBO.out _ e).1 (by omega))
        have N1 := Lib.hid (show (Value.slice al Dm.l.length cl).ownBlock ≠ some (w.heap.size + 1) from fun e => absurd (HBO.out _ e).1 (by omega))
        obtain ⟨c0, c1, c2, c3, c4, c5, c6, c7, c8, c9⟩ := mcells KA3.out
        go_wp2
        exact post_of rfl (r12_done (Z := (Dm, 0, 0)) (m0 := mZ) (lv0 := .slice none 0 0) B03.out B13.out HO3.out GA3.out N0.out N1.out _ rfl rfl)
end Go.Proofs.YtbjoohafgkodcaaGreat
