/- Package strict: both: contract. -/
import Derived.Test.YtbjoohafgkodcaaGreatSs1
import Derived.Test.YtbjoohafgkodcaaGreatWl5
namespace Go.Proofs.YtbjoohafgkodcaaGreat
open Go Go.RowKit Go.Shelf
attribute [local go_sem] Oper.semAt_some

theorem results_ctcS {P : Program} {fn : Func} {p u q : Tmp} {t1 t2 : TypeId} (h : fn.results = #[.cell p t1, .tmp u, .cell q t2]) (tmps : Array Value) (w : World) (a1 a2 : Addr) (v1 v2 v3 : Value)
    (h1 : tmps.getD p undef = .pointer (some a1)) (h2 : tmps.getD q undef = .pointer (some a2)) (h3 : tmps.getD u undef = v3) (l1 : (loadVar t1 a1).run P w = .ok v1 w) (l2 : (loadVar t2 a2).run P w = .ok v2 w) :
    (results fn tmps).run P w = .ok (.tuple #[v1, v3, v2]) w := by
  have h1' : tmps[p]?.getD undef = .pointer (some a1) := by simpa using h1
  have h2' : tmps[q]?.getD undef = .pointer (some a2) := by simpa using h2
  have h3' : tmps[u]?.getD undef = v3 := by simpa using h3
  simp [results, h, h1', h2', h3', asAddr, l1, l2]
/-- a message that is read as proto3 reads it, its own bytes, and what is wrong -/
def bothM (k : Nat) (ver : Int) (b : List UInt8) : Msg × List UInt8 × Nat × Int :=
  if (decM k ver b).2.1 ≠ 0 then (mZ, [], (decM k ver b).2) else ((decM k ver b).1, msgB (decM k ver b).1 (ofKind k (rowsIn ver)), 0, 0)
def BothP (k : Nat) (ver : Int) (l : List UInt8) (w : World) (e : Ending) (w' : World) : Prop :=
  ∃ lv ov, e = .returned (.tuple #[.agg (msgA (bothM k ver l).1 lv), ov, fltI (bothM k ver l).2.2.1 (bothM k ver l).2.2.2]) ∧ OwnT w' w.heap.size lv (bothM k ver l).1.l ∧ OwnB w' w.heap.size ov (bothM k ver l).2.1 ∧ Grew w w'
set_option maxRecDepth 100000 in
set_option maxHeartbeats 8000000 in
theorem sboth_any (k : Nat) (ver : Int) (l : List UInt8) (v : Value) (w : World) (hb : Bs w v l) (hlen : l.length ≤ 1000000) :
    Calls Tryz.prog 27 #[.int .u8 k, .int .i64 ver, v] w (BothP k ver l w) := by
  obtain ⟨a, c, rfl⟩ := bs_len hb
  obtain ⟨W0, hW0⟩ : ∃ W0, W0 = (w.alloc (.cells zMsg 29)).alloc (.cells #[.int .i64 0, .int .i64 0] 32) := ⟨_, rfl⟩
  have g0 : Grew w W0 := by rw [hW0]; exact ((Below.refl _ _).alloc (Nat.le_refl _) _).alloc (by simp) _
  have k0 : Blk W0 w.heap.size 29 zMsg := by rw [hW0]; exact (Blk.new _ _ _).alloc _
  have k1 : Blk W0 (w.heap.size + 1) 32 #[.int .i64 0, .int .i64 0] := by rw [hW0]; exact Blk.at (by simp)
  have G0 := Lib.hid g0
  have K0 := Lib.hid k0
  have K1 := Lib.hid k1
  have KR := Lib.hid (ldecode_any k ver l _ W0 (hb.grew g0) hlen)
  have hbm : bothM k ver l = if (decM k ver l).2.1 ≠ 0 then (mZ, [], (decM k ver l).2) else ((decM k ver l).1, msgB (decM k ver l).1 (ofKind k (rowsIn ver)), 0, 0) := rfl
  have hgd := dec_good (k := k) (ver := ver) (b := l)
  obtain ⟨D, hD⟩ : ∃ D, D = decM k ver l := ⟨_, rfl⟩
  unfold DecP at KR
  unfold BothP
  rw [← hD] at KR hbm hgd
  have HGD := Lib.hid hgd
  have HBM := Lib.hid hbm
  generalize bothM k ver l = R at HBM ⊢
  simp only [zMsg] at hW0
  clear g0 k0 k1 hb hD hbm hgd
  go_enter Tryz.func27, Tryz.ntmps27
  go_wp2_with fail
  rw [← hW0]
  clear hW0
  refine KR.out.mono ?_
  rintro e w1 ⟨lv, rfl, ho, g1⟩
  obtain ⟨al, cl, rfl⟩ := tx_len (Sl.of_own ho)
  simp only [fltI]
  obtain ⟨wa, hwa⟩ : ∃ wa, wa = (w1.alloc (.cells (msgA D.1 (.slice al D.1.l.length cl)) 29)).alloc (.cells #[.int .i64 (D.2.1 : Nat), .int .i64 D.2.2] 32) := ⟨_, rfl⟩
  have ga : Grew w1 wa := by rw [hwa]; exact ((Below.refl _ _).alloc (Nat.le_refl _) _).alloc (by simp) _
  have ka : Blk wa w1.heap.size 29 (msgA D.1 (.slice al D.1.l.length cl)) := by rw [hwa]; exact (Blk.new _ _ _).alloc _
  have kb : Blk wa (w1.heap.size + 1) 32 #[.int .i64 (D.2.1 : Nat), .int .i64 D.2.2] := by rw [hwa]; exact Blk.at (by simp)
  have B0 := Lib.hid ((K0.out.grew g1).grew ga)
  have B1 := Lib.hid ((K1.out.grew g1).grew ga)
  have HO := Lib.hid (own_grew ho ga)
  have GA := Lib.hid ((G0.out.trans g1).trans ga)
  have hz1 : w.heap.size + 1 < w1.heap.size := (K1.out.grew g1).lt
  have hbo := own_lt ho
  have HBO := Lib.hid hbo
  have hw0 : w.heap.size + 1 < W0.heap.size := K1.out.lt
  have e0 : wa.cell? ⟨w1.heap.size + 1, 0, none⟩ = some (.int .i64 (D.2.1 : Nat)) := kb.cell 0
  simp only [msgA] at hwa ⊢
  clear ga ho g1 hbo
  go_upto_region 2 with (fail)
  rw [← hwa]
  clear hwa
  by_cases hE : D.2.1 ≠ 0
  · have hne : ((D.2.1 : Nat) : Int) ≠ 0 := by omega
    have hR : R = (mZ, [], D.2) := by rw [HBM.out, if_pos hE]
    subst hR
    go_upto_region 3 with (fail)
    refine wp_region_heldN (S := fun V => Blk V (w1.heap.size + 1) 32 #[.int .i64 (D.2.1 : Nat), .int .i64 D.2.2]) (by kernel_rfl) kb.drew (fun hHeld => ?_)
    refine wpAnyH_take (i := 0) (oi := _) (v := .agg (msgA mZ (.slice none 0 0))) rfl (by kernel_rfl) (by kernel_rfl) (by kernel_rfl) (fun _ _ _ h => h) (Or.inl ⟨by rfl, fun V _ => by kernel_rfl⟩) (by assumption) ?_
    (try simp only [Act.put, List.setIfInBounds_toArray])
    refine wpAnyH_take (i := 1) (oi := ⟨some 23, _, _, _, _, _⟩) (v := .agg #[.int .i64 (D.2.1 : Nat), .int .i64 D.2.2]) rfl (by kernel_rfl) (by kernel_rfl) (by kernel_rfl) (fun _ _ _ h => h) (y_row 32 _ rfl (w1.heap.size + 1) rfl 32 _ _ (fun V h => h) Tryz.underlying32 rfl (by kernel_rfl) rfl) (by assumption) ?_
    (try simp only [Act.put])
    refine wpAnyH_ready (rs := [2]) (by kernel_rfl) (by simp) ?_
    refine AllReadyH.cons (o := _) rfl (fun K hK => ?_) AllReadyH.nil
    refine wp_store_row 29 _ _ rfl w.heap.size (msgA mZ (.slice none 0 0)) rfl rfl 29 _ B0.out.drew (by kernel_rfl) rfl (msgA_one _ _ _ _) ?_
    refine hK.out _ _ (hHeld.rowOther (by omega)) (fun h1 => ?_)
    clear hK K hHeld
    simp only [Act.put]
    refine wpAnyH_take (i := 3) (oi := _) (v := .slice none 0 0) rfl (by kernel_rfl) (by kernel_rfl) (by kernel_rfl) (fun _ _ _ h => h) (Or.inl ⟨by rfl, fun V _ => by kernel_rfl⟩) (by assumption) ?_
    (try simp only [Act.put])
    refine wpAnyH_ready (rs := [4]) (by kernel_rfl) (by simp) ?_
    refine AllReadyH.cons (o := _) rfl (fun K hK => ?_) AllReadyH.nil
    refine wp_store_pair 32 _ _ rfl (w.heap.size + 1) _ _ rfl rfl 32 _ (B1.out.drew.rowOther (by omega)) (by kernel_rfl) rfl rfl rfl ?_
    refine hK.out _ _ (h1.rowOther (by omega)) (fun _ => ?_)
    clear hK K h1
    simp only [Act.put]
    refine wpAnyH_done (by kernel_rfl) ?_ _
    have R0 := Lib.hid ((B0.out.drew.row (msgA mZ (.slice none 0 0))).rowOther (b := w.heap.size + 1) (new := #[.int .i64 (D.2.1 : Nat), .int .i64 D.2.2]) (by omega))
    have R1 := Lib.hid ((B1.out.drew.rowOther (b := w.heap.size) (new := msgA mZ (.slice none 0 0)) (by omega)).row #[.int .i64 (D.2.1 : Nat), .int .i64 D.2.2])
    have R3 := Lib.hid (below_setRow (below_setRow (GA.out.trans (Drew.grew ⟨1, rfl⟩ : Grew _ wa.drew)) (Nat.le_refl _) (msgA mZ (.slice none 0 0))) (show w.heap.size ≤ w.heap.size + 1 by omega) #[.int .i64 (D.2.1 : Nat), .int .i64 D.2.2])
    simp only [onlyN]
    go_wp2
    refine bodyPost_ret (results_ctcS rfl _ _ _ _ _ _ _ rfl rfl rfl (loadVar_msg _ _ _ _ R0.out) (loadVar_fltI _ _ _ _ R1.out)) rfl ?_
    exact ⟨_, _, rfl, World.ownsRow_nil _ _ _ _, ownB_nil _ _, R3.out⟩
  · have hne : D.2.1 = 0 := by omega
    have hR : R = (D.1, msgB D.1 (ofKind k (rowsIn ver)), 0, 0) := by rw [HBM.out, if_neg hE]
    subst hR
    obtain ⟨y0, y1, y2, y3, y4, y5, y6, y7, y8, y9⟩ := mcells ka
    obtain ⟨q1, q2, q3⟩ := HGD.out hne
    have hok : okE D.1 := chk_okE (ver := ver) (by rw [q1, q2]) q3
    have kby := ebytes_any D.1 al cl ver wa hok (Sl.of_own HO.out)
    rw [q1, q2] at kby
    simp only [msgA, fltV] at kby
    have KBY := Lib.hid kby
    clear kby hok q1 q2 q3
    go_wp2_with fail
    refine KBY.out.mono ?_
    rintro e w3 ⟨v3, rfl, o3, g3⟩
    have kb3 := kb.grew g3
    have ka3 := ka.grew g3
    have z0 : w3.cell? ⟨w1.heap.size + 1, 0, none⟩ = some (.int .i64 (D.2.1 : Nat)) := kb3.cell 0
    have z1 : w3.cell? ⟨w1.heap.size + 1, 1, none⟩ = some (.int .i64 D.2.2) := kb3.cell 1
    have zf0 := kb3.frozen 0
    have zf1 := kb3.frozen 1
    obtain ⟨a3, n3, c3, rfl, -⟩ := bs_shape (Sl.of_own o3)
    obtain ⟨w4, hw4⟩ : ∃ w4, w4 = (w3.setCell ⟨w1.heap.size + 1, 0, none⟩ (.int .i64 0)).setCell ⟨w1.heap.size + 1, 1, none⟩ (.int .i64 0) := ⟨_, rfl⟩
    have ka4 : Blk w4 w1.heap.size 29 (msgA D.1 (.slice al D.1.l.length cl)) := by rw [hw4]; exact (ka3.other _ _ (by simp)).other _ _ (by simp)
    have kb4 : Blk w4 (w1.heap.size + 1) 32 #[.int .i64 0, .int .i64 0] := by rw [hw4]; exact (kb3.set 0 _).set 1 _
    have O3 := Lib.hid o3
    have hwl := kb.lt
    have G4 := Lib.hid (show Grew w w4 by rw [hw4]; exact grew_set (grew_set (GA.out.trans g3) (by omega) _) (by omega) _)
    have C0 := Lib.hid (show Blk w4 w.heap.size 29 zMsg by rw [hw4]; exact ((B0.out.grew g3).other _ _ (show w.heap.size ≠ w1.heap.size + 1 by omega)).other _ _ (show w.heap.size ≠ w1.heap.size + 1 by omega))
    have C1 := Lib.hid (show Blk w4 (w.heap.size + 1) 32 #[.int .i64 0, .int .i64 0] by rw [hw4]; exact ((B1.out.grew g3).other _ _ (show w.heap.size + 1 ≠ w1.heap.size + 1 by omega)).other _ _ (show w.heap.size + 1 ≠ w1.heap.size + 1 by omega))
    have T4 := Lib.hid (show w4.ownsRow W0.heap.size 9 1 (.slice al D.1.l.length cl) D.1.l.length (D.1.l.map Value.string) by
      rw [hw4]
      refine own_set (own_set (own_grew HO.out g3) _ _ (fun e => ?_)) _ _ (fun e => ?_)
      · have := (HBO.out _ e).2; exact absurd this (by show ¬ w1.heap.size + 1 < w1.heap.size; omega)
      · have := (HBO.out _ e).2; exact absurd this (by show ¬ w1.heap.size + 1 < w1.heap.size; omega))
    have U4 := Lib.hid (show OwnB w4 wa.heap.size (.slice a3 n3 c3) (msgB D.1 (ofKind k (rowsIn ver))) by
      rw [hw4]
      refine own_set (own_set o3 _ _ (fun e => ?_)) _ _ (fun e => ?_)
      · have := (own_lt o3 _ e).1; exact absurd this (by show ¬ wa.heap.size ≤ w1.heap.size + 1; omega)
      · have := (own_lt o3 _ e).1; exact absurd this (by show ¬ wa.heap.size ≤ w1.heap.size + 1; omega))
    have UL := Lib.hid (own_lt U4.out)
    clear o3 O3
    go_upto_region 5 with (fail)
    rw [← hw4]
    clear hw4
    refine wp_region_heldN (S := fun V => Blk V w1.heap.size 29 (msgA D.1 (.slice al D.1.l.length cl)) ∧ Blk V (w1.heap.size + 1) 32 #[.int .i64 0, .int .i64 0]) (by kernel_rfl) ⟨ka4.drew, kb4.drew⟩ (fun hHeld => ?_)
    refine wpAnyH_take (i := 0) (oi := ⟨some 30, _, _, _, _, _⟩) (v := .agg (msgA D.1 (.slice al D.1.l.length cl))) rfl (by kernel_rfl) (by kernel_rfl) (by kernel_rfl) (fun _ _ _ h => h) (y_row 29 _ rfl w1.heap.size rfl 29 _ _ (fun V h => h.1) Tryz.underlying29 rfl (by kernel_rfl) rfl) (by assumption) ?_
    (try simp only [Act.put, List.setIfInBounds_toArray, List.set_cons_zero, List.set_cons_succ])
    refine wpAnyH_take (i := 1) (oi := _) (v := .slice a3 n3 c3) rfl (by kernel_rfl) (by kernel_rfl) (by kernel_rfl) (fun _ _ _ h => h) (Or.inl ⟨by rfl, fun V _ => by kernel_rfl⟩) (by assumption) ?_
    (try simp only [Act.put, List.setIfInBounds_toArray])
    refine wpAnyH_take (i := 2) (oi := ⟨some 32, _, _, _, _, _⟩) (v := .agg #[.int .i64 0, .int .i64 0]) rfl (by kernel_rfl) (by kernel_rfl) (by kernel_rfl) (fun _ _ _ h => h) (y_row 32 _ rfl (w1.heap.size + 1) rfl 32 _ _ (fun V h => h.2) Tryz.underlying32 rfl (by kernel_rfl) rfl) (by assumption) ?_
    (try simp only [Act.put])
    refine wpAnyH_ready (rs := [3]) (by kernel_rfl) (by simp) ?_
    refine AllReadyH.cons (o := _) rfl (fun K hK => ?_) AllReadyH.nil
    refine wp_store_row 29 _ _ rfl w.heap.size (msgA D.1 (.slice al D.1.l.length cl)) rfl rfl 29 _ C0.out.drew (by kernel_rfl) rfl (msgA_one _ _ _ _) ?_
    refine hK.out _ _ ⟨hHeld.1.rowOther (by omega), hHeld.2.rowOther (by omega)⟩ (fun h1 => ?_)
    clear hK K hHeld
    simp only [Act.put]
    refine wpAnyH_take (i := 4) (oi := _) (v := .slice a3 n3 c3) rfl (by kernel_rfl) (by kernel_rfl) (by kernel_rfl) (fun _ _ _ h => h) (Or.inl ⟨by rfl, fun V _ => by kernel_rfl⟩) (by assumption) ?_
    (try simp only [Act.put])
    refine wpAnyH_ready (rs := [5]) (by kernel_rfl) (by simp) ?_
    refine AllReadyH.cons (o := _) rfl (fun K hK => ?_) AllReadyH.nil
    refine wp_store_pair 32 _ _ rfl (w.heap.size + 1) _ _ rfl rfl 32 _ (C1.out.drew.rowOther (by omega)) (by kernel_rfl) rfl rfl rfl ?_
    refine hK.out _ _ ⟨h1.1.rowOther (by omega), h1.2.rowOther (by omega)⟩ (fun _ => ?_)
    clear hK K h1
    simp only [Act.put]
    refine wpAnyH_done (by kernel_rfl) ?_ _
    have R0 := Lib.hid ((C0.out.drew.row (msgA D.1 (.slice al D.1.l.length cl))).rowOther (b := w.heap.size + 1) (new := #[.int .i64 0, .int .i64 0]) (by omega))
    have R1 := Lib.hid ((C1.out.drew.rowOther (b := w.heap.size) (new := msgA D.1 (.slice al D.1.l.length cl)) (by omega)).row #[.int .i64 0, .int .i64 0])
    have R2 := Lib.hid (own_block (own_block (own_grew T4.out (Drew.grew ⟨1, rfl⟩ : Grew w4 w4.drew)) (w' := w4.drew.setRow w.heap.size (msgA D.1 (.slice al D.1.l.length cl))) (fun g hg => setRow_other _ _ _ _ (fun e => by have := (HBO.out g hg).1; omega))) (w' := (w4.drew.setRow w.heap.size (msgA D.1 (.slice al D.1.l.length cl))).setRow (w.heap.size + 1) #[.int .i64 0, .int .i64 0]) (fun g hg => setRow_other _ _ _ _ (fun e => by have := (HBO.out g hg).1; omega)))
    have R4 := Lib.hid (own_block (own_block (own_grew U4.out (Drew.grew ⟨1, rfl⟩ : Grew w4 w4.drew)) (w' := w4.drew.setRow w.heap.size (msgA D.1 (.slice al D.1.l.length cl))) (fun g hg => setRow_other _ _ _ _ (fun e => by have := (UL.out g hg).1; omega))) (w' := (w4.drew.setRow w.heap.size (msgA D.1 (.slice al D.1.l.length cl))).setRow (w.heap.size + 1) #[.int .i64 0, .int .i64 0]) (fun g hg => setRow_other _ _ _ _ (fun e => by have := (UL.out g hg).1; omega)))
    have R3 := Lib.hid (below_setRow (below_setRow (G4.out.trans (Drew.grew ⟨1, rfl⟩ : Grew _ w4.drew)) (Nat.le_refl _) (msgA D.1 (.slice al D.1.l.length cl))) (show w.heap.size ≤ w.heap.size + 1 by omega) #[.int .i64 0, .int .i64 0])
    simp only [onlyN]
    go_wp2
    refine bodyPost_ret (results_ctcS rfl _ _ _ _ _ _ _ rfl rfl rfl (loadVar_msg _ _ _ _ R0.out) (loadVar_fltI _ _ 0 0 R1.out)) rfl ?_
    exact ⟨_, _, rfl, own_mono R2.out (by omega), own_mono R4.out (by omega), R3.out⟩
end Go.Proofs.YtbjoohafgkodcaaGreat
