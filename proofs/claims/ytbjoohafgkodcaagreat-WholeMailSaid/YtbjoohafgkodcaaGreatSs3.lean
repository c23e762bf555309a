/- Package strict: Decode, Fix: contracts. -/
import Derived.Test.YtbjoohafgkodcaaGreatSs2
namespace Go.Proofs.YtbjoohafgkodcaaGreat
open Go Go.RowKit Go.Shelf
attribute [local go_sem] Oper.semAt_some

theorem str_both (k : Nat) (ver : Int) (l : List UInt8) : strM k ver l = (if (bothM k ver l).2.2.1 ≠ 0 then (mZ, (bothM k ver l).2.2) else if unlikeM l (bothM k ver l).2.1 < 0 then ((bothM k ver l).1, 0, 0) else (mZ, 3, unlikeM l (bothM k ver l).2.1)) := by
  have hb : bothM k ver l = if (decM k ver l).2.1 ≠ 0 then (mZ, [], (decM k ver l).2) else ((decM k ver l).1, msgB (decM k ver l).1 (ofKind k (rowsIn ver)), 0, 0) := rfl
  unfold strM
  generalize decM k ver l = D at hb ⊢
  by_cases hE : D.2.1 ≠ 0
  · rw [if_pos hE] at hb
    rw [hb, if_pos hE, if_pos hE]
  · rw [if_neg hE] at hb
    rw [hb, if_neg hE]
    show _ = (if (0 : Nat) ≠ 0 then (mZ, (0, (0 : Int))) else if unlikeM l (msgB D.1 (ofKind k (rowsIn ver))) < 0 then (D.1, 0, 0) else (mZ, 3, unlikeM l (msgB D.1 (ofKind k (rowsIn ver)))))
    unfold unlikeM
    by_cases h : l = msgB D.1 (ofKind k (rowsIn ver))
    · rw [if_pos h, if_pos h, if_neg (by omega), if_pos (by omega)]
    · rw [if_neg h, if_neg h, if_neg (by omega), if_neg (by omega)]
/-- what Decode returns -/
def StrP (k : Nat) (ver : Int) (l : List UInt8) (w : World) (e : Ending) (w' : World) : Prop :=
  ∃ lv, e = .returned (.tuple #[.agg (msgA (strM k ver l).1 lv), fltI (strM k ver l).2.1 (strM k ver l).2.2]) ∧ OwnT w' w.heap.size lv (strM k ver l).1.l ∧ Grew w w'
/-- what Fix returns -/
def FixP (k : Nat) (ver : Int) (l : List UInt8) (w : World) (e : Ending) (w' : World) : Prop :=
  ∃ ov, e = .returned (.tuple #[ov, fltI (bothM k ver l).2.2.1 (bothM k ver l).2.2.2]) ∧ OwnB w' w.heap.size ov (bothM k ver l).2.1 ∧ Grew w w'
def doneF (W : World) (b : Nat) (s : Msg) (lv : Value) (x : Nat) (y : Int) : World := ((chainW W b s lv).setCell ⟨b + 1, 0, none⟩ (.int .i64 (x : Nat))).setCell ⟨b + 1, 1, none⟩ (.int .i64 y)
theorem msg_done {P : Program} {fn : Func} (hr : fn.results = #[.cell 6 29, .cell 7 32]) {w W : World} {s m0 : Msg} {lv lv0 x y : Value} {e : Nat} {q : Int} (h0 : Blk W w.heap.size 29 (msgA m0 lv0)) (h1 : Blk W (w.heap.size + 1) 32 #[x, y]) (ho : OwnT W w.heap.size lv s.l) (hg : Grew w W)
    (n0 : lv.ownBlock ≠ some w.heap.size) (n1 : lv.ownBlock ≠ some (w.heap.size + 1))
    (tmps : Array Value) (t0 : tmps.getD 6 undef = .pointer (some ⟨w.heap.size, 0, none⟩)) (t1 : tmps.getD 7 undef = .pointer (some ⟨w.heap.size + 1, 0, none⟩)) (hP : P = Tryz.prog) :
    (results fn tmps).run P (doneF W w.heap.size s lv e q) = .ok (.tuple #[.agg (msgA s lv), fltI e q]) (doneF W w.heap.size s lv e q) ∧ OwnT (doneF W w.heap.size s lv e q) w.heap.size lv s.l ∧ Grew w (doneF W w.heap.size s lv e q) := by
  subst hP
  have r0 : Blk (doneF W w.heap.size s lv e q) w.heap.size 29 (msgA s lv) := ((chain_blk h0 s lv).other ⟨w.heap.size + 1, 0, none⟩ (.int .i64 (e : Nat)) (by simp)).other ⟨w.heap.size + 1, 1, none⟩ (.int .i64 q) (by simp)
  have r1 : Blk (doneF W w.heap.size s lv e q) (w.heap.size + 1) 32 #[.int .i64 (e : Nat), .int .i64 q] := ((chain_other h1 (by omega) s lv).set 0 (.int .i64 (e : Nat))).set 1 (.int .i64 q)
  have r2 : OwnT (doneF W w.heap.size s lv e q) w.heap.size lv s.l := own_set (own_set (chain_own ho n0 s lv) ⟨w.heap.size + 1, 0, none⟩ (.int .i64 (e : Nat)) n1) ⟨w.heap.size + 1, 1, none⟩ (.int .i64 q) n1
  have r3 : Grew w (doneF W w.heap.size s lv e q) := grew_set (b := w.heap.size + 1) (j := 1) (grew_set (b := w.heap.size + 1) (j := 0) (chain_below hg (Nat.le_refl _) s lv) (by omega) (.int .i64 (e : Nat))) (by omega) (.int .i64 q)
  exact ⟨results_cc hr _ _ _ _ _ _ t0 t1 (loadVar_msg _ _ _ _ r0) (loadVar_fltI _ _ e q r1), r2, r3⟩
theorem str_done {w W : World} {Z : Msg × Nat × Int} {m0 : Msg} {lv lv0 x y : Value} (h0 : Blk W w.heap.size 29 (msgA m0 lv0)) (h1 : Blk W (w.heap.size + 1) 32 #[x, y]) (ho : OwnT W w.heap.size lv Z.1.l) (hg : Grew w W)
    (n0 : lv.ownBlock ≠ some w.heap.size) (n1 : lv.ownBlock ≠ some (w.heap.size + 1))
    (tmps : Array Value) (t0 : tmps.getD 6 undef = .pointer (some ⟨w.heap.size, 0, none⟩)) (t1 : tmps.getD 7 undef = .pointer (some ⟨w.heap.size + 1, 0, none⟩)) :
    ∃ v, (results Tryz.f8 tmps).run Tryz.prog (doneF W w.heap.size Z.1 lv Z.2.1 Z.2.2) = .ok v (doneF W w.heap.size Z.1 lv Z.2.1 Z.2.2) ∧ (∃ lv', Ending.returned v = .returned (.tuple #[.agg (msgA Z.1 lv'), fltI Z.2.1 Z.2.2]) ∧ OwnT (doneF W w.heap.size Z.1 lv Z.2.1 Z.2.2) w.heap.size lv' Z.1.l ∧ Grew w (doneF W w.heap.size Z.1 lv Z.2.1 Z.2.2)) := by
  obtain ⟨z1, z2, z3⟩ := msg_done (P := Tryz.prog) (fn := Tryz.f8) rfl (s := Z.1) (lv := lv) (e := Z.2.1) (q := Z.2.2) h0 h1 ho hg n0 n1 tmps t0 t1 rfl
  exact ⟨_, z1, lv, rfl, z2, z3⟩
set_option maxRecDepth 100000 in
set_option maxHeartbeats 8000000 in
theorem sdecode_any (k : Nat) (ver : Int) (l : List UInt8) (v : Value) (w : World) (hb : Bs w v l) (hlen : l.length ≤ 1000000) :
    Calls Tryz.prog 8 #[.int .u8 k, .int .i64 ver, v] w (StrP k ver l w) := by
  obtain ⟨a, c, rfl⟩ := bs_len hb
  obtain ⟨W0, hW0⟩ : ∃ W0, W0 = (w.alloc (.cells zMsg 29)).alloc (.cells #[.int .i64 0, .int .i64 0] 32) := ⟨_, rfl⟩
  have g0 : Grew w W0 := by rw [hW0]; exact ((Below.refl _ _).alloc (Nat.le_refl _) _).alloc (by simp) _
  have k0 : Blk W0 w.heap.size 29 zMsg := by rw [hW0]; exact (Blk.new _ _ _).alloc _
  have k1 : Blk W0 (w.heap.size + 1) 32 #[.int .i64 0, .int .i64 0] := by rw [hW0]; exact Blk.at (by simp)
  have G0 := Lib.hid g0
  have K0 := Lib.hid k0
  have K1 := Lib.hid k1
  have KR := Lib.hid (sboth_any k ver l _ W0 (hb.grew g0) hlen)
  have hsb := str_both k ver l
  obtain ⟨R, hR⟩ : ∃ R, R = bothM k ver l := ⟨_, rfl⟩
  unfold BothP at KR
  unfold StrP
  rw [← hR] at KR hsb
  have HSB := Lib.hid hsb
  have HB := Lib.hid (hb.grew g0)
  generalize strM k ver l = Z at HSB ⊢
  simp only [zMsg] at hW0
  clear g0 k0 k1 hb hR hsb
  go_enter Tryz.func8, Tryz.ntmps8
  go_wp2_with fail
  rw [← hW0]
  clear hW0
  refine KR.out.mono ?_
  rintro e w1 ⟨lv, ov, rfl, ho, hob, g1⟩
  obtain ⟨al, cl, rfl⟩ := tx_len (Sl.of_own ho)
  obtain ⟨ao, co, rfl⟩ := bs_len (Sl.of_own hob)
  simp only [fltI]
  obtain ⟨wa, hwa⟩ : ∃ wa, wa = (w1.alloc (.cells (msgA R.1 (.slice al R.1.l.length cl)) 29)).alloc (.cells #[.int .i64 (R.2.2.1 : Nat), .int .i64 R.2.2.2] 32) := ⟨_, rfl⟩
  have ga : Grew w1 wa := by rw [hwa]; exact ((Below.refl _ _).alloc (Nat.le_refl _) _).alloc (by simp) _
  have ka : Blk wa w1.heap.size 29 (msgA R.1 (.slice al R.1.l.length cl)) := by rw [hwa]; exact (Blk.new _ _ _).alloc _
  have kb : Blk wa (w1.heap.size + 1) 32 #[.int .i64 (R.2.2.1 : Nat), .int .i64 R.2.2.2] := by rw [hwa]; exact Blk.at (by simp)
  have B0 := Lib.hid ((K0.out.grew g1).grew ga)
  have B1 := Lib.hid ((K1.out.grew g1).grew ga)
  have HO := Lib.hid (own_grew ho ga)
  have HU := Lib.hid (own_grew hob ga)
  have HL := Lib.hid ((HB.out.grew g1).grew ga)
  have GA := Lib.hid ((G0.out.trans g1).trans ga)
  have hz1 : w.heap.size + 1 < w1.heap.size := (K1.out.grew g1).lt
  have hbo := own_lt ho
  have HBO := Lib.hid hbo
  have hw0 : w.heap.size + 1 < W0.heap.size := K1.out.lt
  have e0 : wa.cell? ⟨w1.heap.size + 1, 0, none⟩ = some (.int .i64 (R.2.2.1 : Nat)) := kb.cell 0
  simp only [msgA] at hwa ⊢
  clear ga ho hob g1 hbo
  go_upto_region 2 with (fail)
  rw [← hwa]
  clear hwa
  by_cases hE : R.2.2.1 ≠ 0
  · have hne : ((R.2.2.1 : Nat) : Int) ≠ 0 := by omega
    have hZ : Z = (mZ, R.2.2) := by rw [HSB.out, if_pos hE]
    subst hZ
    go_upto_region 3 with (fail)
    refine wp_region_heldN (S := fun V => Blk V (w1.heap.size + 1) 32 #[.int .i64 (R.2.2.1 : Nat), .int .i64 R.2.2.2]) (by kernel_rfl) kb.drew (fun hHeld => ?_)
    refine wpAnyH_take (i := 0) (oi := _) (v := .agg (msgA mZ (.slice none 0 0))) rfl (by kernel_rfl) (by kernel_rfl) (by kernel_rfl) (fun _ _ _ h => h) (Or.inl ⟨by rfl, fun V _ => by kernel_rfl⟩) (by assumption) ?_
    (try simp only [Act.put, List.setIfInBounds_toArray])
    refine wpAnyH_take (i := 1) (oi := ⟨some 24, _, _, _, _, _⟩) (v := .agg #[.int .i64 (R.2.2.1 : Nat), .int .i64 R.2.2.2]) rfl (by kernel_rfl) (by kernel_rfl) (by kernel_rfl) (fun _ _ _ h => h) (y_row 32 _ rfl (w1.heap.size + 1) rfl 32 _ _ (fun V h => h) Tryz.underlying32 rfl (by kernel_rfl) rfl) (by assumption) ?_
    (try simp only [Act.put])
    refine wpAnyH_ready (rs := [2]) (by kernel_rfl) (by simp) ?_
    refine AllReadyH.cons (o := _) rfl (fun K hK => ?_) AllReadyH.nil
    refine wp_store_row 29 _ _ rfl w.heap.size (msgA mZ (.slice none 0 0)) rfl rfl 29 _ B0.out.drew (by kernel_rfl) rfl (msgA_one _ _ _ _) ?_
    refine hK.out _ _ (hHeld.rowOther (by omega)) (fun h1 => ?_)
    clear hK K hHeld
    simp only [Act.put]
    refine wpAnyH_ready (rs := [3]) (by kernel_rfl) (by simp) ?_
    refine AllReadyH.cons (o := _) rfl (fun K hK => ?_) AllReadyH.nil
    refine wp_store_pair 32 _ _ rfl (w.heap.size + 1) _ _ rfl rfl 32 _ (B1.out.drew.rowOther (by omega)) (by kernel_rfl) rfl rfl rfl ?_
    refine hK.out _ _ (h1.rowOther (by omega)) (fun _ => ?_)
    clear hK K h1
    simp only [Act.put]
    refine wpAnyH_done (by kernel_rfl) ?_ _
    have R0 := Lib.hid ((B0.out.drew.row (msgA mZ (.slice none 0 0))).rowOther (b := w.heap.size + 1) (new := #[.int .i64 (R.2.2.1 : Nat), .int .i64 R.2.2.2]) (by omega))
    have R1 := Lib.hid ((B1.out.drew.rowOther (b := w.heap.size) (new := msgA mZ (.slice none 0 0)) (by omega)).row #[.int .i64 (R.2.2.1 : Nat), .int .i64 R.2.2.2])
    have R3 := Lib.hid (below_setRow (below_setRow (GA.out.trans (Drew.grew ⟨1, rfl⟩ : Grew _ wa.drew)) (Nat.le_refl _) (msgA mZ (.slice none 0 0))) (show w.heap.size ≤ w.heap.size + 1 by omega) #[.int .i64 (R.2.2.1 : Nat), .int .i64 R.2.2.2])
    simp only [onlyN]
    go_wp2
    refine bodyPost_ret (results_cc rfl _ _ _ _ _ _ rfl rfl (loadVar_msg _ _ _ _ R0.out) (loadVar_fltI _ _ _ _ R1.out)) rfl ?_
    exact ⟨_, rfl, World.ownsRow_nil _ _ _ _, R3.out⟩
  · have hne : R.2.2.1 = 0 := by omega
    obtain ⟨u, hu⟩ : ∃ u, u = unlikeM l R.2.1 := ⟨_, rfl⟩
    have KU := Lib.hid (sunlike_any l R.2.1 _ _ wa HL.out (Sl.of_own HU.out))
    rw [← hu] at KU
    rw [if_neg (by omega), ← hu] at HSB
    have KA := Lib.hid ka
    have HSZ := Lib.hid (show w.heap.size ≤ W0.heap.size by omega)
    clear ka kb hu
    go_wp2_with fail
    refine KU.out.mono ?_
    rintro e w3 ⟨rfl, hd3⟩
    have G3 := Lib.hid hd3.grew
    have B03 := Lib.hid (B0.out.grew G3.out)
    have B13 := Lib.hid (B1.out.grew G3.out)
    have KA3 := Lib.hid (KA.out.grew G3.out)
    have HO3 := Lib.hid (own_mono (own_grew HO.out G3.out) HSZ.out)
    have GA3 := Lib.hid (GA.out.trans G3.out)
    clear hd3 e0
    obtain ⟨o0, o1, o2, o3, o4, o5, o6, o7, o8, o9⟩ := mcells (show Blk w3 w.heap.size 29 (msgA mZ (.slice none 0 0)) from B03.out)
    have fz := fun j => (B03.out).frozen j
    have f0 := fz 0
    have f1 := fz 1
    have f2 := fz 2
    have f3 := fz 3
    have f4 := fz 4
    have f5 := fz 5
    have f6 := fz 6
    have f7 := fz 7
    have f8 := fz 8
    have f9 := fz 9
    obtain ⟨u0, u1, u2, u3⟩ := cells_of B13.out
    clear fz
    by_cases hu0 : 0 ≤ u
    · have hZ : Z = (mZ, 3, u) := by rw [HSB.out, if_neg (by omega)]
      subst hZ
      go_wp2
      exact post_of rfl (str_done (Z := (mZ, 3, u)) (m0 := mZ) (lv0 := .slice none 0 0) B03.out B13.out (World.ownsRow_nil _ _ _ _) GA3.out (by simp [Value.ownBlock]) (by simp [Value.ownBlock]) _ rfl rfl)
    · have hZ : Z = (R.1, 0, 0) := by rw [HSB.out, if_pos (by omega)]
      subst hZ
      have n0 : (Value.slice al R.1.l.length cl).ownBlock ≠ some w.heap.size := fun e => absurd (HBO.out _ e).1 (by omega)
      have n1 : (Value.slice al R.1.l.length cl).ownBlock ≠ some (w.heap.size + 1) := fun e => absurd (HBO.out _ e).1 (by omega)
      have N0 := Lib.hid n0
      have N1 := Lib.hid n1
      obtain ⟨c0, c1, c2, c3, c4, c5, c6, c7, c8, c9⟩ := mcells KA3.out
      clear n0 n1
      go_wp2
      exact post_of rfl (str_done (Z := (R.1, 0, 0)) (m0 := mZ) (lv0 := .slice none 0 0) B03.out B13.out HO3.out GA3.out N0.out N1.out _ rfl rfl)
set_option maxRecDepth 100000 in
set_option maxHeartbeats 8000000 in
theorem sfix_any (k : Nat) (ver : Int) (l : List UInt8) (v : Value) (w : World) (hb : Bs w v l) (hlen : l.length ≤ 1000000) :
    Calls Tryz.prog 26 #[.int .u8 k, .int .i64 ver, v] w (FixP k ver l w) := by
  obtain ⟨a, c, rfl⟩ := bs_len hb
  obtain ⟨W0, hW0⟩ : ∃ W0, W0 = w.alloc (.cells #[.int .i64 0, .int .i64 0] 32) := ⟨_, rfl⟩
  have g0 : Grew w W0 := by rw [hW0]; exact (Below.refl _ _).alloc (Nat.le_refl _) _
  have k1 : Blk W0 w.heap.size 32 #[.int .i64 0, .int .i64 0] := by rw [hW0]; exact Blk.new _ _ _
  have G0 := Lib.hid g0
  have K1 := Lib.hid k1
  have KR := Lib.hid (sboth_any k ver l _ W0 (hb.grew g0) hlen)
  obtain ⟨R, hR⟩ : ∃ R, R = bothM k ver l := ⟨_, rfl⟩
  unfold BothP at KR
  unfold FixP
  rw [← hR] at KR ⊢
  clear g0 k1 hb hR
  go_enter Tryz.func26, Tryz.ntmps26
  go_wp2_with fail
  rw [← hW0]
  clear hW0
  refine KR.out.mono ?_
  rintro e w1 ⟨lv, ov, rfl, ho, hob, g1⟩
  obtain ⟨al, cl, rfl⟩ := tx_len (Sl.of_own ho)
  obtain ⟨ao, co, rfl⟩ := bs_len (Sl.of_own hob)
  simp only [fltI]
  obtain ⟨wa, hwa⟩ : ∃ wa, wa = (w1.alloc (.cells (msgA R.1 (.slice al R.1.l.length cl)) 29)).alloc (.cells #[.int .i64 (R.2.2.1 : Nat), .int .i64 R.2.2.2] 32) := ⟨_, rfl⟩
  have ga : Grew w1 wa := by rw [hwa]; exact ((Below.refl _ _).alloc (Nat.le_refl _) _).alloc (by simp) _
  have ka : Blk wa w1.heap.size 29 (msgA R.1 (.slice al R.1.l.length cl)) := by rw [hwa]; exact (Blk.new _ _ _).alloc _
  have kb : Blk wa (w1.heap.size + 1) 32 #[.int .i64 (R.2.2.1 : Nat), .int .i64 R.2.2.2] := by rw [hwa]; exact Blk.at (by simp)
  have B1 := Lib.hid ((K1.out.grew g1).grew ga)
  have HU := Lib.hid (own_grew hob ga)
  have GA := Lib.hid ((G0.out.trans g1).trans ga)
  have hz1 : w.heap.size < w1.heap.size := (K1.out.grew g1).lt
  have hw0 : w.heap.size < W0.heap.size := K1.out.lt
  have HBO := Lib.hid (own_lt hob)
  simp only [msgA] at hwa ⊢
  clear ga ho hob g1 ka
  go_upto_region 2 with (fail)
  rw [← hwa]
  clear hwa
  refine wp_region_heldN (S := fun V => Blk V (w1.heap.size + 1) 32 #[.int .i64 (R.2.2.1 : Nat), .int .i64 R.2.2.2]) (by kernel_rfl) kb.drew (fun hHeld => ?_)
  clear kb
  refine wpAnyH_take (i := 0) (oi := ⟨some 19, _, _, _, _, _⟩) (v := .slice ao R.2.1.length co) rfl (by kernel_rfl) (by kernel_rfl) (by kernel_rfl) (fun _ _ _ h => h) (Or.inl ⟨by rfl, ?_⟩) (by assumption) ?_
  · intro V hV
    go_simp
    try rfl
  simp only [Act.put, List.setIfInBounds_toArray, List.set_cons_zero, List.set_cons_succ]
  refine wpAnyH_take (i := 1) (oi := ⟨some 20, _, _, _, _, _⟩) (v := .agg #[.int .i64 (R.2.2.1 : Nat), .int .i64 R.2.2.2]) rfl (by kernel_rfl) (by kernel_rfl) (by kernel_rfl) (fun _ _ _ h => h) (y_row 32 _ rfl (w1.heap.size + 1) rfl 32 _ _ (fun V h => h) Tryz.underlying32 rfl (by kernel_rfl) rfl) (by assumption) ?_
  simp only [Act.put, List.setIfInBounds_toArray, List.set_cons_zero, List.set_cons_succ]
  refine wpAnyH_take (i := 2) (oi := ⟨some 6, _, _, _, _, _⟩) (v := .slice ao R.2.1.length co) rfl (by kernel_rfl) (by kernel_rfl) (by kernel_rfl) (fun _ _ _ h => h) (Or.inl ⟨by rfl, ?_⟩) (by assumption) ?_
  · intro V hV
    go_simp
    try rfl
  simp only [Act.put, List.setIfInBounds_toArray, List.set_cons_zero, List.set_cons_succ]
  refine wpAnyH_ready (rs := [3]) (by kernel_rfl) (by simp) ?_
  refine AllReadyH.cons (o := _) rfl (fun K hK => ?_) AllReadyH.nil
  refine wp_store_pair 32 _ _ rfl w.heap.size _ _ rfl rfl 32 _ B1.out.drew (by kernel_rfl) rfl rfl rfl ?_
  refine hK.out _ _ (hHeld.rowOther (by omega)) (fun _ => ?_)
  clear hK K hHeld
  simp only [Act.put]
  refine wpAnyH_done (by kernel_rfl) ?_ _
  have R1 := Lib.hid (B1.out.drew.row #[.int .i64 (R.2.2.1 : Nat), .int .i64 R.2.2.2])
  have R2 := Lib.hid (own_block (own_grew HU.out (Drew.grew ⟨1, rfl⟩ : Grew wa wa.drew)) (w' := wa.drew.setRow w.heap.size #[.int .i64 (R.2.2.1 : Nat), .int .i64 R.2.2.2]) (fun g hg => setRow_other _ _ _ _ (fun e => by have := (HBO.out g hg).1; omega)))
  have R3 := Lib.hid (below_setRow (GA.out.trans (Drew.grew ⟨1, rfl⟩ : Grew _ wa.drew)) (Nat.le_refl _) #[.int .i64 (R.2.2.1 : Nat), .int .i64 R.2.2.2])
  simp only [onlyN]
  go_wp2
  refine bodyPost_ret (results_tc rfl _ _ _ _ _ rfl rfl (loadVar_fltI _ _ _ _ R1.out)) rfl ?_
  exact ⟨_, rfl, own_mono R2.out (by omega), R3.out⟩
end Go.Proofs.YtbjoohafgkodcaaGreat
