/- LenientSets: the walk. -/
import Derived.Test.YtbjoohafgkodcaaWl9
namespace Go.Proofs.Ytbjoohafgkodcaa
open Go Go.RowKit Go.Shelf
attribute [local go_sem] Oper.semAt_some

theorem same_refl2 (a : Msg) : sameB a a = true := sameB_iff.2 ⟨rfl, fun _ _ => rfl, fun _ _ => rfl, rfl⟩
theorem cells3' {w : World} {b : Nat} {t : TypeId} {x y z : Value} (h : Blk w b t #[x, y, z]) : w.cell? ⟨b, 0, none⟩ = some x ∧ w.cell? ⟨b, 1, none⟩ = some y ∧ w.cell? ⟨b, 2, none⟩ = some z := by
  refine ⟨?_, ?_, ?_⟩ <;> (rw [h.cell]; rfl)
/-- the six numbers of a message are stored -/
def sixW (W : World) (b : Nat) (f : Nat → Nat) : World :=
  ((((((W.setCell ⟨b, 1, none⟩ (.int .u64 (f 0 : Nat))).setCell ⟨b, 2, none⟩ (.int .u64 (f 1 : Nat))).setCell ⟨b, 3, none⟩ (.int .u64 (f 2 : Nat))).setCell ⟨b, 4, none⟩ (.int .u64 (f 3 : Nat))).setCell ⟨b, 5, none⟩ (.int .u64 (f 4 : Nat))).setCell ⟨b, 6, none⟩ (.int .u64 (f 5 : Nat)))
/-- the two strings of a message are stored -/
def twoW (W : World) (b : Nat) (f : Nat → ByteArray) : World := (W.setCell ⟨b, 7, none⟩ (.string (f 0))).setCell ⟨b, 8, none⟩ (.string (f 1))
theorem six_blk {W : World} {b : Nat} {t : TypeId} {m : Msg} {lv : Value} (h : Blk W b t (msgA m lv)) (f : Nat → Nat) : Blk (sixW W b f) b t (msgA ⟨m.k, f, m.s, m.l⟩ lv) := by
  have e : (((((((msgA m lv).setIfInBounds 1 (.int .u64 (f 0 : Nat))).setIfInBounds 2 (.int .u64 (f 1 : Nat))).setIfInBounds 3 (.int .u64 (f 2 : Nat))).setIfInBounds 4 (.int .u64 (f 3 : Nat))).setIfInBounds 5 (.int .u64 (f 4 : Nat))).setIfInBounds 6 (.int .u64 (f 5 : Nat))) = msgA ⟨m.k, f, m.s, m.l⟩ lv := by simp [msgA]
  rw [← e]
  exact (((((h.set 1 _).set 2 _).set 3 _).set 4 _).set 5 _).set 6 _
theorem two_blk {W : World} {b : Nat} {t : TypeId} {m : Msg} {lv : Value} (h : Blk W b t (msgA m lv)) (f : Nat → ByteArray) : Blk (twoW W b f) b t (msgA ⟨m.k, m.n, f, m.l⟩ lv) := by
  have e : (((msgA m lv).setIfInBounds 7 (.string (f 0))).setIfInBounds 8 (.string (f 1))) = msgA ⟨m.k, m.n, f, m.l⟩ lv := by simp [msgA]
  rw [← e]
  exact (h.set 7 _).set 8 _
theorem six_other {W : World} {b c : Nat} {t : TypeId} {cs : Array Value} (h : Blk W c t cs) (hne : c ≠ b) (f : Nat → Nat) : Blk (sixW W b f) c t cs :=
  (((((h.other ⟨b, 1, none⟩ _ hne).other ⟨b, 2, none⟩ _ hne).other ⟨b, 3, none⟩ _ hne).other ⟨b, 4, none⟩ _ hne).other ⟨b, 5, none⟩ _ hne).other ⟨b, 6, none⟩ _ hne
theorem two_other {W : World} {b c : Nat} {t : TypeId} {cs : Array Value} (h : Blk W c t cs) (hne : c ≠ b) (f : Nat → ByteArray) : Blk (twoW W b f) c t cs :=
  (h.other ⟨b, 7, none⟩ _ hne).other ⟨b, 8, none⟩ _ hne
theorem six_grew {n : Nat} {w W : World} (h : Below n w W) {b : Nat} (hb : n ≤ b) (f : Nat → Nat) : Below n w (sixW W b f) :=
  grew_set (grew_set (grew_set (grew_set (grew_set (grew_set h hb _) hb _) hb _) hb _) hb _) hb _
theorem two_grew {n : Nat} {w W : World} (h : Below n w W) {b : Nat} (hb : n ≤ b) (f : Nat → ByteArray) : Below n w (twoW W b f) := grew_set (grew_set h hb _) hb _
theorem wp_store_six {P : Program} {o : Oper} {a : Act} {w : World} {K : Act → World → Prop} {Q : Exit → Act → World → Prop} (ty : TypeId) (x y : Operand) (ho : o.op = .store ty x y)
    (g : Nat) (f : Nat → Nat) (hx : a.eval x = .pointer (some ⟨g, 1, none⟩)) (hy : a.eval y = .agg #[.int .u64 (f 0 : Nat), .int .u64 (f 1 : Nat), .int .u64 (f 2 : Nat), .int .u64 (f 3 : Nat), .int .u64 (f 4 : Nat), .int .u64 (f 5 : Nat)]) (t : TypeId) (m : Msg) (lv : Value) (hg : Blk w g t (msgA m lv)) (hi : (P.info? ty).map (·.size) = some 6)
    (h : K (a.put o.dst undef) (sixW w g f)) : o.wp P a w K Q := by
  obtain ⟨c0, c1, c2, c3, c4, c5, c6, -, -, -⟩ := mcells hg
  have f0 := hg.frozen 1
  have f1 := hg.frozen 2
  have f2 := hg.frozen 3
  have f3 := hg.frozen 4
  have f4 := hg.frozen 5
  have f5 := hg.frozen 6
  unfold Oper.wp execOp
  simp only [ho, hx, hy, Instr.storeAt, Instr.sureAddr, Sem.run_bind, Sem.run_pure, Result.andThen_ok]
  cases hq : P.info? ty with
  | none => simp [hq] at hi
  | some i =>
    have hs : i.size = 6 := by simp [hq] at hi; omega
    simp [go_sem, c1, c2, c3, c4, c5, c6, f0, f1, f2, f3, f4, f5, sizeOf, typeInfo, hq, hs]
    exact h
theorem wp_store_two {P : Program} {o : Oper} {a : Act} {w : World} {K : Act → World → Prop} {Q : Exit → Act → World → Prop} (ty : TypeId) (x y : Operand) (ho : o.op = .store ty x y)
    (g : Nat) (f : Nat → ByteArray) (hx : a.eval x = .pointer (some ⟨g, 7, none⟩)) (hy : a.eval y = .agg #[.string (f 0), .string (f 1)]) (t : TypeId) (m : Msg) (lv : Value) (hg : Blk w g t (msgA m lv)) (hi : (P.info? ty).map (·.size) = some 2)
    (h : K (a.put o.dst undef) (twoW w g f)) : o.wp P a w K Q := by
  obtain ⟨-, -, -, -, -, -, -, c7, c8, -⟩ := mcells hg
  have f0 := hg.frozen 7
  have f1 := hg.frozen 8
  unfold Oper.wp execOp
  simp only [ho, hx, hy, Instr.storeAt, Instr.sureAddr, Sem.run_bind, Sem.run_pure, Result.andThen_ok]
  cases hq : P.info? ty with
  | none => simp [hq] at hi
  | some i =>
    have hs : i.size = 2 := by simp [hq] at hi; omega
    simp [go_sem, c7, c8, f0, f1, sizeOf, typeInfo, hq, hs]
    exact h
set_option maxRecDepth 100000 in
set_option maxHeartbeats 8000000 in
theorem lsets_walk (m : Msg) (v : Value) (s : Int × Int × Int) (x : FFV) (w : World) (hm : MsgR w v m) (hb : Bs w x.2 (fB x.1)) (hx : x.1.ok) :
    Calls Try.prog 4 #[v, .agg #[.int .i64 s.1, .int .i64 s.2.1, .int .i64 s.2.2], fldA x.1 x.2] w fun e w' => e = .returned (.bool true) ∧ Grew w w' := by
  obtain ⟨lv, rfl, hl, -⟩ := hm
  obtain ⟨a, c, rfl⟩ := tx_len hl
  obtain ⟨X, xv⟩ := x
  obtain ⟨num, t, sl⟩ := s
  simp only at hb hx ⊢
  obtain ⟨xa, xc, rfl⟩ := bs_len hb
  obtain ⟨W0, hW0⟩ : ∃ W0, W0 = ((w.alloc (.cells (msgA m (.slice a m.l.length c)) 29)).alloc (.cells #[.int .i64 num, .int .i64 t, .int .i64 sl] 42)).alloc (.cells #[.int .i64 X.1, .int .u8 (X.2.1 : Nat), .int .u64 (X.2.2.1 : Nat), .slice xa (fB X).length xc, .int .i64 X.2.2.2.2] 44) := ⟨_, rfl⟩
  have g0 : Grew w W0 := by rw [hW0]; exact (((Below.refl _ _).alloc (Nat.le_refl _) _).alloc (by simp) _).alloc (by simp; omega) _
  have K0 := Lib.hid (show Blk W0 w.heap.size 29 (msgA m (.slice a m.l.length c)) by rw [hW0]; exact ((Blk.new _ _ _).alloc _).alloc _)
  have K1 := Lib.hid (show Blk W0 (w.heap.size + 1) 42 #[.int .i64 num, .int .i64 t, .int .i64 sl] by rw [hW0]; exact (Blk.at (by simp)).alloc _)
  have K2 := Lib.hid (show Blk W0 (w.heap.size + 1 + 1) 44 #[.int .i64 X.1, .int .u8 (X.2.1 : Nat), .int .u64 (X.2.2.1 : Nat), .slice xa (fB X).length xc, .int .i64 X.2.2.2.2] by rw [hW0]; exact Blk.at (by simp))
  have G0 := Lib.hid g0
  have HL := Lib.hid hl
  have HB := Lib.hid hb
  have HXN := Lib.hid hx.2.2.2
  simp only [msgA] at hW0 ⊢
  clear g0 hl hb hx
  go_enter Try.func4, Try.ntmps4
  go_upto_region 1 with (fail)
  rw [← hW0]
  clear hW0
  go_wp2_with fail
  refine (live11_any _).mono ?_
  rintro e w1 ⟨rfl, g1⟩
  have G1 := Lib.hid (G0.out.trans g1)
  have D1 := Lib.hid g1
  have KSM := Lib.hid (small9_any m _ w1 (HL.out.grew G1.out))
  obtain ⟨c0, c1, c2, c3, c4, c5, c6, c7, c8, c9⟩ := mcells (K0.out.grew g1)
  simp only [msgA] at KSM
  clear g1
  go_wp2_with fail
  refine KSM.out.mono ?_
  rintro e w2 ⟨rfl, g2⟩
  have G2 := Lib.hid (G1.out.trans g2)
  have D2 := Lib.hid (D1.out.trans g2)
  clear g2 c0 c1 c2 c3 c4 c5 c6 c7 c8 c9 KSM
  obtain ⟨y0, y1, y2, y3, y4, -⟩ := cells5 (K2.out.grew D2.out)
  cases hs : smallB m with
  | false =>
    clear hs
    go_wp2
    go_ret
    exact ⟨rfl, G2.out⟩
  | true =>
  have h70 := small_len' hs
  clear hs
  by_cases hlx : 8000 < (fB X).length
  · have q : decide (((fB X).length : Int) > 8000) = true := decide_eq_true (by omega)
    go_wp2
    go_ret
    exact ⟨rfl, G2.out⟩
  have q : decide (((fB X).length : Int) > 8000) = false := decide_eq_false (by omega)
  have KC := Lib.hid (rclean_any m a c 0 w2)
  obtain ⟨c0, c1, c2, c3, c4, c5, c6, c7, c8, c9⟩ := mcells (K0.out.grew D2.out)
  have hcl : clA m (ofKind m.k (rowsIn 0)) (.slice a m.l.length c) = #[.int .u8 m.k, .int .u64 0, .int .u64 0, .int .u64 0, .int .u64 0, .int .u64 0, .int .u64 0, .string ⟨#[]⟩, .string ⟨#[]⟩, .slice none 0 0] := by
    have e : ofKind m.k (rowsIn 0) = [] := rfl
    rw [e]; rfl
  rw [hcl] at KC
  clear hcl
  simp only [msgA] at KC
  go_wp2_with fail
  refine KC.out.mono ?_
  rintro e w3 ⟨rfl, g3⟩
  have G3 := Lib.hid (G2.out.trans g3)
  have D3 := Lib.hid (D2.out.trans g3)
  clear g3 c0 c1 c2 c3 c4 c5 c6 c7 c8 c9 y0 y1 y2 y3 y4 KC
  obtain ⟨V3, hV3⟩ : ∃ V, V = w3.alloc (.cells (msgA (m0 m.k) (.slice none 0 0)) 29) := ⟨_, rfl⟩
  have gv : Grew w3 V3 := by rw [hV3]; exact grew_alloc _ _
  have KW := Lib.hid (show Blk V3 w3.heap.size 29 (msgA (m0 m.k) (.slice none 0 0)) by rw [hV3]; exact Blk.new _ _ _)
  have E3 := Lib.hid (D3.out.trans gv)
  obtain ⟨c0, c1, c2, c3, c4, c5, c6, c7, c8, c9⟩ := mcells (K0.out.grew E3.out)
  simp only [msgA, m0, Int.natCast_zero] at hV3
  clear c0 c1 c2 c3 c4 c5 c6 c7 c8 c9 gv
  go_upto_region 6 with (fail)
  rw [← hV3]
  clear hV3
  have HW3 := Lib.hid (show w.heap.size + 3 ≤ w3.heap.size by have h := D3.out.size; have h2 := G0.out.size; have h3 := K2.out.lt; omega)
  refine wp_region_heldN (S := fun V => Blk V w.heap.size 29 (msgA m (.slice a m.l.length c))) (by kernel_rfl) (K0.out.grew E3.out).drew (fun hHeld => ?_)
  refine wpAnyH_take (i := 0) (oi := ⟨some 25, _, _, _, _, _⟩) (v := .pointer (some ⟨w.heap.size, 1, none⟩)) rfl (by kernel_rfl) (by kernel_rfl) (by kernel_rfl) (fun _ _ _ h => h) (Or.inl ⟨by rfl, ?_⟩) (by assumption) ?_
  · intro V hV
    go_simp
    try rfl
  simp only [Act.put, List.setIfInBounds_toArray, List.set_cons_zero, List.set_cons_succ]
  refine wpAnyH_take (i := 1) (oi := ⟨some 26, _, _, _, _, _⟩) (v := .agg #[.int .u64 (m.n 0 : Nat), .int .u64 (m.n 1 : Nat), .int .u64 (m.n 2 : Nat), .int .u64 (m.n 3 : Nat), .int .u64 (m.n 4 : Nat), .int .u64 (m.n 5 : Nat)]) rfl (by kernel_rfl) (by kernel_rfl) (by kernel_rfl) (fun _ _ _ h => h) (Or.inl ⟨by rfl, ?_⟩) (by assumption) ?_
  · intro V hV
    obtain ⟨c0, c1, c2, c3, c4, c5, c6, c7, c8, c9⟩ := mcells hV
    go_simp
    try rfl
  simp only [Act.put, List.setIfInBounds_toArray, List.set_cons_zero, List.set_cons_succ]
  refine wpAnyH_take (i := 2) (oi := ⟨some 27, _, _, _, _, _⟩) (v := .pointer (some ⟨w.heap.size, 7, none⟩)) rfl (by kernel_rfl) (by kernel_rfl) (by kernel_rfl) (fun _ _ _ h => h) (Or.inl ⟨by rfl, ?_⟩) (by assumption) ?_
  · intro V hV
    go_simp
    try rfl
  simp only [Act.put, List.setIfInBounds_toArray, List.set_cons_zero, List.set_cons_succ]
  refine wpAnyH_take (i := 3) (oi := ⟨some 28, _, _, _, _, _⟩) (v := .agg #[.string (m.s 0), .string (m.s 1)]) rfl (by kernel_rfl) (by kernel_rfl) (by kernel_rfl) (fun _ _ _ h => h) (Or.inl ⟨by rfl, ?_⟩) (by assumption) ?_
  · intro V hV
    obtain ⟨c0, c1, c2, c3, c4, c5, c6, c7, c8, c9⟩ := mcells hV
    go_simp
    try rfl
  simp only [Act.put, List.setIfInBounds_toArray, List.set_cons_zero, List.set_cons_succ]
  refine wpAnyH_take (i := 4) (oi := ⟨some 29, _, _, _, _, _⟩) (v := .pointer (some ⟨w3.heap.size, 1, none⟩)) rfl (by kernel_rfl) (by kernel_rfl) (by kernel_rfl) (fun _ _ _ h => h) (Or.inl ⟨by rfl, ?_⟩) (by assumption) ?_
  · intro V hV
    go_simp
    try rfl
  simp only [Act.put, List.setIfInBounds_toArray, List.set_cons_zero, List.set_cons_succ]
  refine wpAnyH_ready (rs := [5]) (by kernel_rfl) (by simp) ?_
  refine AllReadyH.cons (o := _) rfl (fun K hK => ?_) AllReadyH.nil
  refine wp_store_six _ _ _ rfl w3.heap.size m.n rfl rfl 29 _ _ KW.out.drew (by kernel_rfl) ?_
  refine hK.out _ _ (six_other hHeld (by have h := HW3.out; omega) _) ?_
  clear hK K hHeld
  obtain ⟨W5, hW5⟩ : ∃ W5, W5 = sixW V3.drew w3.heap.size m.n := ⟨_, rfl⟩
  have KW5 := Lib.hid (show Blk W5 w3.heap.size 29 (msgA ⟨m.k, m.n, (m0 m.k).s, []⟩ (.slice none 0 0)) by rw [hW5]; exact six_blk KW.out.drew _)
  have G5 := Lib.hid (show Grew W0 W5 by rw [hW5]; exact six_grew (E3.out.trans (Drew.grew ⟨1, rfl⟩ : Grew _ V3.drew)) D3.out.size _)
  rw [← hW5]
  clear hW5
  intro hHeld
  simp only [Act.put]
  refine wpAnyH_take (i := 6) (oi := ⟨some 30, _, _, _, _, _⟩) (v := .pointer (some ⟨w3.heap.size, 7, none⟩)) rfl (by kernel_rfl) (by kernel_rfl) (by kernel_rfl) (fun _ _ _ h => h) (Or.inl ⟨by rfl, ?_⟩) (by assumption) ?_
  · intro V hV
    go_simp
    try rfl
  simp only [Act.put, List.setIfInBounds_toArray]
  refine wpAnyH_ready (rs := [7]) (by kernel_rfl) (by simp) ?_
  refine AllReadyH.cons (o := _) rfl (fun K hK => ?_) AllReadyH.nil
  refine wp_store_two _ _ _ rfl w3.heap.size m.s rfl rfl 29 _ _ KW5.out (by kernel_rfl) ?_
  refine hK.out _ _ (two_other hHeld (by have h := HW3.out; omega) _) (fun _ => ?_)
  clear hK K
  simp only [Act.put]
  refine wpAnyH_done (by kernel_rfl) ?_ _
  obtain ⟨W4, hW4⟩ : ∃ W4, W4 = twoW W5 w3.heap.size m.s := ⟨_, rfl⟩
  have KW4 := Lib.hid (show Blk W4 w3.heap.size 29 (msgA ⟨m.k, m.n, m.s, []⟩ (.slice none 0 0)) by rw [hW4]; exact two_blk KW5.out _)
  have E4 := Lib.hid (show Grew W0 W4 by rw [hW4]; exact two_grew G5.out D3.out.size _)
  clear hHeld
  rw [← hW4]
  clear hW4
  simp only [onlyN]
  obtain ⟨S, hS⟩ : ∃ S, S = setM m t sl X := ⟨_, rfl⟩
  have KL := Lib.hid (fun W (g : Grew w W) => lset_any m (.slice a m.l.length c) num t sl X (.slice xa (fB X).length xc) W (HL.out.grew g) (by omega) (HB.out.grew g) (by omega) HXN.out)
  have KR := Lib.hid (fun W (g : Grew w W) => rset_any m (.slice a m.l.length c) num t sl X (.slice xa (fB X).length xc) W (HL.out.grew g) (by omega) (HB.out.grew g) (by omega) HXN.out)
  unfold SetP at KL
  unfold RSetP at KR
  rw [← hS] at KL KR
  clear hS
  simp only [msgA, fldA] at KL KR
  have G4 := Lib.hid (G0.out.trans E4.out)
  obtain ⟨c0, c1, c2, c3, c4, c5, c6, c7, c8, c9⟩ := mcells (K0.out.grew E4.out)
  obtain ⟨x0, x1, x2⟩ := cells3' (K1.out.grew E4.out)
  obtain ⟨y0, y1, y2, y3, y4, -⟩ := cells5 (K2.out.grew E4.out)
  rename_i hxx
  clear hxx
  go_wp2_with fail
  refine (KL.out _ G4.out).mono ?_
  rintro e w5 ⟨lv5, rfl, ho5, g5⟩
  obtain ⟨a5, c5', rfl⟩ := tx_len (Sl.of_own ho5)
  obtain ⟨V5, hV5⟩ : ∃ V, V = w5.alloc (.cells (msgA S.1 (.slice a5 S.1.l.length c5')) 29) := ⟨_, rfl⟩
  have gv : Grew w5 V5 := by rw [hV5]; exact grew_alloc _ _
  have KA := Lib.hid (show Blk V5 w5.heap.size 29 (msgA S.1 (.slice a5 S.1.l.length c5')) by rw [hV5]; exact Blk.new _ _ _)
  have T5 := Lib.hid (Sl.of_own (own_grew ho5 gv))
  have M5 := Lib.hid (g5.trans gv)
  have E5 := Lib.hid (E4.out.trans M5.out)
  have H5 := Lib.hid (G4.out.trans M5.out)
  simp only [msgA] at hV5
  clear g5 gv ho5 c0 c1 c2 c3 c4 c5 c6 c7 c8 c9 x0 x1 x2 y0 y1 y2 y3 y4 KL
  obtain ⟨c0, c1, c2, c3, c4, c5, c6, c7, c8, c9⟩ := mcells (K0.out.grew E5.out)
  obtain ⟨x0, x1, x2⟩ := cells3' (K1.out.grew E5.out)
  obtain ⟨y0, y1, y2, y3, y4, -⟩ := cells5 (K2.out.grew E5.out)
  go_upto_region 8 with (fail)
  rw [← hV5]
  clear hV5
  go_wp2_with fail
  refine (KR.out _ H5.out).mono ?_
  rintro e w6 ⟨lv6, rfl, ho6, g6⟩
  have t6 : Tx w6 lv6 S.1.l := by
    rcases ho6 with ⟨rfl, h⟩ | h
    · rw [h]; exact HL.out.grew (H5.out.trans g6)
    · exact Sl.of_own h
  obtain ⟨a6, c6', rfl⟩ := tx_len t6
  obtain ⟨V6, hV6⟩ : ∃ V, V = w6.alloc (.cells (msgA S.1 (.slice a6 S.1.l.length c6')) 29) := ⟨_, rfl⟩
  have gv : Grew w6 V6 := by rw [hV6]; exact grew_alloc _ _
  have kb : Blk V6 w6.heap.size 29 (msgA S.1 (.slice a6 S.1.l.length c6')) := by rw [hV6]; exact Blk.new _ _ _
  have M6 := Lib.hid (g6.trans gv)
  have E6 := Lib.hid (E5.out.trans M6.out)
  have H6 := Lib.hid (H5.out.trans M6.out)
  have KS := Lib.hid (rsame9_any S.1 S.1 _ _ V6 (T5.out.grew M6.out) (t6.grew gv))
  rw [same_refl2] at KS
  have kw := KW4.out.grew (M5.out.trans M6.out)
  clear c0 c1 c2 c3 c4 c5 c6 c7 c8 c9 x0 x1 x2 y0 y1 y2 y3 y4 KR
  obtain ⟨c0, c1, c2, c3, c4, c5, c6, c7, c8, c9⟩ := mcells (KA.out.grew M6.out)
  obtain ⟨d0, d1, d2, d3, d4, d5, d6, d7, d8, d9⟩ := mcells kb
  simp only [msgA] at KS hV6
  clear g6 t6 ho6 gv kb
  go_upto_region 9 with (fail)
  rw [← hV6]
  clear hV6
  go_wp2_with fail
  refine KS.out.mono ?_
  rintro e w7 ⟨rfl, g7⟩
  have E7 := Lib.hid (E6.out.trans g7)
  have H7 := Lib.hid (H6.out.trans g7)
  clear c0 c1 c2 c3 c4 c5 c6 c7 c8 c9 d0 d1 d2 d3 d4 d5 d6 d7 d8 d9 KS
  obtain ⟨c0, c1, c2, c3, c4, c5, c6, c7, c8, c9⟩ := mcells (K0.out.grew E7.out)
  obtain ⟨d0, d1, d2, d3, d4, d5, d6, d7, d8, d9⟩ := mcells (kw.grew g7)
  clear kw g7
  simp only at d0 d1 d2 d3 d4 d5 d6 d7 d8 d9
  have hen := fun W => msg_eqn m m W
  have hes := fun W => msg_eqs m m W
  simp only [beq_self_eq_true] at hen hes
  go_wp2
  go_ret
  exact ⟨rfl, H7.out⟩
end Go.Proofs.Ytbjoohafgkodcaa
