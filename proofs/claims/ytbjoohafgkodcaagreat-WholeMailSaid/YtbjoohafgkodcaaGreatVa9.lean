/- rescriptref09.Check: contract. ; value.Check, rescriptref09.Check: contracts. ; rescriptref09.Clean: contract. -/
import Derived.Test.YtbjoohafgkodcaaGreatVa6
namespace Go.Proofs.YtbjoohafgkodcaaGreat
open Go Go.RowKit Go.Shelf

def clLv (l : List Row) (lv : Value) : Value := if hasL l = true then lv else .slice none 0 0
def clA (m : Msg) (l : List Row) (lv : Value) : Array Value := msgA (cleanM m l) (clLv l lv)
theorem clA_num (m : Msg) (l : List Row) (r : Row) (lv : Value) (ht : rTyp r ≤ 6) (hs : rSlot r < 6) : (clA m l lv).setIfInBounds (1 + rSlot r) (.int .u64 (m.n (rSlot r) : Nat)) = clA m (l ++ [r]) lv := by
  have e1 : ∀ i, (cleanM m (l ++ [r])).n i = if i = rSlot r then m.n i else (cleanM m l).n i := fun i => by
    simp only [cleanM, hasN_snoc, decide_eq_true ht, Bool.true_and]
    by_cases c : i = rSlot r
    · subst c; simp
    · have : (rSlot r == i) = false := by simpa using fun h => c h.symm
      rw [this, Bool.or_false, if_neg c]
  have e2 : ∀ i, (cleanM m (l ++ [r])).s i = (cleanM m l).s i := fun i => by
    simp only [cleanM, hasS_snoc, decide_eq_false (show ¬ 7 ≤ rTyp r by omega), Bool.false_and, Bool.or_false]
  have e3 : clLv (l ++ [r]) lv = clLv l lv := by
    simp only [clLv, hasL_snoc, decide_eq_false (show ¬ 10 ≤ rTyp r by omega), Bool.or_false]
  unfold clA msgA
  simp only [e1, e2, e3]
  rcases (show rSlot r = 0 ∨ rSlot r = 1 ∨ rSlot r = 2 ∨ rSlot r = 3 ∨ rSlot r = 4 ∨ rSlot r = 5 by omega) with c | c | c | c | c | c <;> rw [c] <;> simp [cleanM]
theorem clA_txt (m : Msg) (l : List Row) (r : Row) (lv : Value) (h7 : 7 ≤ rTyp r) (h9 : rTyp r ≤ 9) (hs : rSlot r < 2) : (clA m l lv).setIfInBounds (7 + rSlot r) (.string (m.s (rSlot r))) = clA m (l ++ [r]) lv := by
  have e1 : ∀ i, (cleanM m (l ++ [r])).s i = if i = rSlot r then m.s i else (cleanM m l).s i := fun i => by
    simp only [cleanM, hasS_snoc, decide_eq_true h7, decide_eq_true h9, Bool.true_and]
    by_cases c : i = rSlot r
    · subst c; simp
    · have : (rSlot r == i) = false := by simpa using fun h => c h.symm
      rw [this, Bool.or_false, if_neg c]
  have e2 : ∀ i, (cleanM m (l ++ [r])).n i = (cleanM m l).n i := fun i => by
    simp only [cleanM, hasN_snoc, decide_eq_false (show ¬ rTyp r ≤ 6 by omega), Bool.false_and, Bool.or_false]
  have e3 : clLv (l ++ [r]) lv = clLv l lv := by
    simp only [clLv, hasL_snoc, decide_eq_false (show ¬ 10 ≤ rTyp r by omega), Bool.or_false]
  unfold clA msgA
  simp only [e1, e2, e3]
  rcases (show rSlot r = 0 ∨ rSlot r = 1 by omega) with c | c <;> rw [c] <;> simp [cleanM]
theorem clA_lst (m : Msg) (l : List Row) (r : Row) (lv : Value) (h : 10 ≤ rTyp r) : (clA m l lv).setIfInBounds 9 lv = clA m (l ++ [r]) lv := by
  have e1 : ∀ i, (cleanM m (l ++ [r])).n i = (cleanM m l).n i := fun i => by
    simp only [cleanM, hasN_snoc, decide_eq_false (show ¬ rTyp r ≤ 6 by omega), Bool.false_and, Bool.or_false]
  have e2 : ∀ i, (cleanM m (l ++ [r])).s i = (cleanM m l).s i := fun i => by
    simp only [cleanM, hasS_snoc, decide_eq_false (show ¬ rTyp r ≤ 9 by omega), Bool.and_false, Bool.false_and, Bool.or_false]
  have e3 : clLv (l ++ [r]) lv = lv := by
    simp only [clLv, hasL_snoc, decide_eq_true h, Bool.or_true, if_true]
  unfold clA msgA
  simp only [e1, e2, e3]
  rfl
theorem clA_0 (m : Msg) (lv : Value) : clA m [] lv = #[.int .u8 m.k, .int .u64 0, .int .u64 0, .int .u64 0, .int .u64 0, .int .u64 0, .int .u64 0, .string ⟨#[]⟩, .string ⟨#[]⟩, .slice none 0 0] := rfl
theorem rangeAt_grew {W W' : World} {b o : Nat} {cs : List Value} (h : W.rangeAt b o cs) (g : Grew W W') : W'.rangeAt b o cs := fun j v hv => (below_ext g) _ _ (h j v hv)
theorem blk_range {W : World} {b : Nat} {t : TypeId} {cs : Array Value} (h : Blk W b t cs) : W.rangeAt b 0 cs.toList := fun j v hv => by
  rw [Nat.zero_add, h.cell j, ← Array.getElem?_toList]; exact hv
theorem msg_cells {W : World} {b : Nat} {t : TypeId} {m : Msg} {lv : Value} (h : Blk W b t (msgA m lv)) :
    W.cell? ⟨b, 0, none⟩ = some (.int .u8 m.k) ∧ W.cell? ⟨b, 1, none⟩ = some (.int .u64 (m.n 0)) ∧ W.cell? ⟨b, 2, none⟩ = some (.int .u64 (m.n 1)) ∧ W.cell? ⟨b, 3, none⟩ = some (.int .u64 (m.n 2)) ∧ W.cell? ⟨b, 4, none⟩ = some (.int .u64 (m.n 3)) ∧
    W.cell? ⟨b, 5, none⟩ = some (.int .u64 (m.n 4)) ∧ W.cell? ⟨b, 6, none⟩ = some (.int .u64 (m.n 5)) ∧ W.cell? ⟨b, 7, none⟩ = some (.string (m.s 0)) ∧ W.cell? ⟨b, 8, none⟩ = some (.string (m.s 1)) ∧ W.cell? ⟨b, 9, none⟩ = some lv := by
  refine ⟨?_, ?_, ?_, ?_, ?_, ?_, ?_, ?_, ?_, ?_⟩ <;> (rw [h.cell]; rfl)
theorem clLv_tx {W : World} {lv : Value} {m : Msg} {l : List Row} (h : Tx W lv m.l) : Tx W (clLv l lv) (cleanM m l).l := by
  unfold clLv cleanM; simp only
  split
  · exact h
  · exact Sl.nil W 1

set_option maxRecDepth 100000 in
set_option maxHeartbeats 8000000 in
theorem rclean_any (m : Msg) (a : Option Addr) (c : Nat) (ver : Int) (w : World) :
    Calls Tryz.prog 61 #[.agg (msgA m (.slice a m.l.length c)), .int .i64 ver] w fun e w' => e = .returned (.agg (clA m (ofKind m.k (rowsIn ver)) (.slice a m.l.length c))) ∧ Grew w w' := by
  have KO := Lib.hid (fun W => rof_any m.k ver W)
  have hok := fun r (h : r ∈ ofKind m.k (rowsIn ver)) => of_ok h
  have hle := ofKind_le m.k ver
  generalize ofKind m.k (rowsIn ver) = L at KO hok hle ⊢
  have HOK := Lib.hid hok
  simp only [msgA]
  obtain ⟨lv, hlv⟩ : ∃ lv, lv = Value.slice a m.l.length c := ⟨_, rfl⟩
  obtain ⟨W0, hW0⟩ : ∃ W0, W0 = ((w.alloc (.cells (msgA m (.slice a m.l.length c)) 29)).alloc (.cells zMsg 29)).alloc (.cells (clA m [] lv) 29) := ⟨_, rfl⟩
  have hg0 : Grew w W0 := by rw [hW0]; exact (grew2 _ _ _).trans (grew_alloc _ _)
  have hz0 : W0.heap.size = w.heap.size + 3 := by rw [hW0]; simp
  have k1 : Blk W0 w.heap.size 29 (msgA m (.slice a m.l.length c)) := by rw [hW0]; exact ((Blk.new _ _ _).alloc _).alloc _
  have k2 : Blk W0 (w.heap.size + 1) 29 zMsg := by rw [hW0]; exact (Blk.new2 _ _ _ _).alloc _
  have k3 : Blk W0 (w.heap.size + 2) 29 (clA m [] lv) := by rw [hW0]; exact Blk.at (by simp)
  rw [clA_0] at hW0
  simp only [msgA, zMsg] at hW0
  have HLV := Lib.hid hlv
  clear hok hlv
  go_enter Tryz.func61, Tryz.ntmps61
  go_wp2_with fail
  rw [← hW0]
  refine (KO.out _).mono ?_
  rintro e w1 ⟨v1, rfl, r1, g1⟩
  obtain ⟨a1, c1, rfl, -, -, -, -⟩ := (Sl.of_own r1).open
  have q1 := k1.grew g1
  have q2 := k2.grew g1
  have q3 := k3.grew g1
  have hg1 := hg0.trans g1
  have Q1 := Lib.hid q1
  have Q2 := Lib.hid q2
  have Q3 := Lib.hid q3
  have G1 := Lib.hid hg1
  have R1 := Lib.hid r1
  have HZ0 := Lib.hid hz0
  have hli : (L.length : Int) ≤ 40 := by omega
  clear q1 q2 q3 hg1 r1 hz0 k1 k2 k3 hg0 g1 hW0 KO
  go_wp2
  go_loopw [7] (fun iv wr => ∃ i : Nat, i ≤ L.length ∧ iv = .int .i64 i ∧ Blk wr (w.heap.size + 2) 29 (clA m (L.take i) lv) ∧ Blk wr w.heap.size 29 (msgA m (.slice a m.l.length c)) ∧ Blk wr (w.heap.size + 1) 29 zMsg ∧ OwnS wr W0.heap.size (.slice a1 L.length c1) L ∧ Grew w wr) (fun iv _ => L.length - (intOf iv).toNat)
  case atStart => exact ⟨0, Nat.zero_le _, rfl, Q3.out, Q1.out, Q2.out, R1.out, G1.out⟩
  case round =>
    obtain ⟨i, hi, rfl, hbo, hb1, hb2, hro, hgr⟩ := hrel
    by_cases hlt : i < L.length
    · obtain ⟨a', c', e, -, -, -, hcc⟩ := (Sl.of_own hro).open
      cases e
      obtain ⟨b, o, rfl, hcl⟩ := hcc (by omega)
      have hf := fun j hj => flat_get (f := specV) (k := 3) (fun _ => rfl) L i hlt j hj
      have x0 := hcl _ _ (hf 0 (by omega))
      have x1 := hcl _ _ (hf 1 (by omega))
      have x2 := hcl _ _ (hf 2 (by omega))
      simp only [Nat.add_zero, ← Nat.add_assoc] at x0 x1 x2
      have hrk := HOK.out L[i] (List.getElem_mem hlt)
      have htk := List.take_succ_eq_append_getElem hlt
      generalize L[i] = r at x0 x1 x2 hrk htk
      obtain ⟨kd, nm, ty, sl, si⟩ := r
      simp only [rTyp, rSlot] at hrk
      have HTK := Lib.hid htk
      have KP := Lib.hid (fun W => place_any m a c nm ty sl W)
      simp only [msgA] at KP
      have zi0 : (0 : Int) ≤ (i : Int) := by omega
      have zi : (i : Int) < (L.length : Int) := by omega
      have X0 := Lib.hid x0
      have X1 := Lib.hid x1
      have X2 := Lib.hid x2
      have HB1 := Lib.hid hb1
      obtain ⟨c0, c1', c2, c3, c4, c5, c6, c7, c8, c9⟩ := msg_cells hb1
      clear hf hcl htk hcc
      go_wp2
      go_region_held3 (fun W => (W.cell? ⟨w.heap.size, 0, none⟩ = some (.int .u8 m.k) ∧ W.cell? ⟨w.heap.size, 1, none⟩ = some (.int .u64 (m.n 0)) ∧ W.cell? ⟨w.heap.size, 2, none⟩ = some (.int .u64 (m.n 1)) ∧ W.cell? ⟨w.heap.size, 3, none⟩ = some (.int .u64 (m.n 2)) ∧ W.cell? ⟨w.heap.size, 4, none⟩ = some (.int .u64 (m.n 3)) ∧ W.cell? ⟨w.heap.size, 5, none⟩ = some (.int .u64 (m.n 4)) ∧ W.cell? ⟨w.heap.size, 6, none⟩ = some (.int .u64 (m.n 5)) ∧ W.cell? ⟨w.heap.size, 7, none⟩ = some (.string (m.s 0)) ∧ W.cell? ⟨w.heap.size, 8, none⟩ = some (.string (m.s 1)) ∧ W.cell? ⟨w.heap.size, 9, none⟩ = some (.slice a m.l.length c)) ∧ W.cell? ⟨b, o + i * 3, none⟩ = some (.int .i64 nm) ∧ W.cell? ⟨b, o + i * 3 + 1, none⟩ = some (.int .i64 ty) ∧ W.cell? ⟨b, o + i * 3 + 2, none⟩ = some (.int .i64 sl)) (first | go_keep | exact ⟨j0, j1, j2, j3⟩) ((go_at_call 64; refine (KP.out _).mono ?_; rintro e2 W2 ⟨rfl, g2⟩; have gd := Grew.trans (Drew.grew (⟨1, rfl⟩ : Drew wr wr.drew)) g2; have j0 := msg_cells (HB1.out.grew gd); have j1 := (below_ext gd) _ _ X0.out; have j2 := (below_ext gd) _ _ X1.out; have j3 := (below_ext gd) _ _ X2.out))
      have gd := Grew.trans (Drew.grew (⟨1, rfl⟩ : Drew wr wr.drew)) g2
      obtain ⟨-, j1, j2, j3⟩ : True ∧ W2.cell? ⟨b, o + i * 3, none⟩ = some (.int .i64 nm) ∧ W2.cell? ⟨b, o + i * 3 + 1, none⟩ = some (.int .i64 ty) ∧ W2.cell? ⟨b, o + i * 3 + 2, none⟩ = some (.int .i64 sl) := ⟨trivial, (below_ext gd) _ _ X0.out, (below_ext gd) _ _ X1.out, (below_ext gd) _ _ X2.out⟩
      have HW := Lib.hid (own_grew hro gd)
      have HB1' := Lib.hid (HB1.out.grew gd)
      have HB2' := Lib.hid (hb2.grew gd)
      have HGR := Lib.hid (hgr.trans gd)
      have hbo2 := hbo.grew gd
      have hne : ∀ g, (Value.slice (some ⟨b, o, none⟩) L.length c1).ownBlock = some g → g ≠ w.heap.size + 2 := fun g hg => by have := (own_lt hro g hg).1; have := HZ0.out; omega
      have HNE := Lib.hid hne
      clear c0 c1' c2 c3 c4 c5 c6 c7 c8 c9 x0 x1 x2 hbo hb1 hb2 hro hgr gd g2 hne X0 X1 X2 HB1 KP R1
      by_cases h6 : ty ≤ 6
      · have hs6 : sl < 6 := hrk.2.2.1 h6
        have hp := pl_num (m := m) (t := (ty : Int)) (sl := (sl : Int)) (by unfold numB; simp; omega) (by omega) (by omega)
        rw [Int.toNat_natCast] at hp
        rw [hp.1, hp.2.1, hp.2.2.2]
        have z0 : (0 : Int) ≤ (sl : Int) := by omega
        have z1 : (sl : Int) < 6 := by omega
        have z2 : (ty : Int) ≤ 6 := by omega
        have hset := clA_num m (L.take i) (kd, nm, ty, sl, si) lv h6 hs6
        rw [← HTK.out] at hset
        have s1 := hbo2.set (1 + sl) (.int .u64 (m.n sl : Nat))
        rw [hset] at s1
        obtain ⟨u, y0⟩ : ∃ u, (clA m (L.take i) lv)[1 + sl]? = some u := ⟨_, Array.getElem?_eq_getElem (by simp [clA, msgA]; omega)⟩
        have y1 := hbo2.cell (1 + sl)
        rw [y0] at y1
        have y2 := hbo2.frozen (1 + sl)
        have S1 := Lib.hid s1
        have S2 := Lib.hid (HB1'.out.other ⟨w.heap.size + 2, 1 + sl, none⟩ (.int .u64 (m.n sl : Nat)) (by simp))
        have S3 := Lib.hid (HB2'.out.other ⟨w.heap.size + 2, 1 + sl, none⟩ (.int .u64 (m.n sl : Nat)) (by simp))
        have S4 := Lib.hid (own_set HW.out ⟨w.heap.size + 2, 1 + sl, none⟩ (.int .u64 (m.n sl : Nat)) (fun e => HNE.out _ e rfl))
        have S5 := Lib.hid (grew_set (b := w.heap.size + 2) (j := 1 + sl) HGR.out (by omega) (.int .u64 (m.n sl : Nat)))
        clear hp hset s1 y0 hbo2 HTK hrk h6 hs6
        go_wp2
        go_roundw
        case rel => exact ⟨i + 1, by omega, by go_num, S1.out, S2.out, S3.out, S4.out, S5.out⟩
        case measure => simp [intOf]; omega
      by_cases h9 : ty ≤ 9
      · have hs2 : sl < 2 := hrk.2.2.2 (by omega) h9
        have hp := pl_txt (m := m) (t := (ty : Int)) (sl := (sl : Int)) (by unfold txtB; simp; omega) (by omega) (by omega)
        rw [Int.toNat_natCast] at hp
        rw [hp.1, hp.2.1, hp.2.2.2]
        have z0 : (0 : Int) ≤ (sl : Int) := by omega
        have z1 : (sl : Int) < 2 := by omega
        have z2 : ¬ (ty : Int) ≤ 6 := by omega
        have z3 : (ty : Int) ≤ 9 := by omega
        have hset := clA_txt m (L.take i) (kd, nm, ty, sl, si) lv (by simp only [rTyp]; omega) h9 hs2
        rw [← HTK.out] at hset
        have s1 := hbo2.set (7 + sl) (.string (m.s sl))
        rw [hset] at s1
        obtain ⟨u, y0⟩ : ∃ u, (clA m (L.take i) lv)[7 + sl]? = some u := ⟨_, Array.getElem?_eq_getElem (by simp [clA, msgA]; omega)⟩
        have y1 := hbo2.cell (7 + sl)
        rw [y0] at y1
        have y2 := hbo2.frozen (7 + sl)
        have S1 := Lib.hid s1
        have S2 := Lib.hid (HB1'.out.other ⟨w.heap.size + 2, 7 + sl, none⟩ (.string (m.s sl)) (by simp))
        have S3 := Lib.hid (HB2'.out.other ⟨w.heap.size + 2, 7 + sl, none⟩ (.string (m.s sl)) (by simp))
        have S4 := Lib.hid (own_set HW.out ⟨w.heap.size + 2, 7 + sl, none⟩ (.string (m.s sl)) (fun e => HNE.out _ e rfl))
        have S5 := Lib.hid (grew_set (b := w.heap.size + 2) (j := 7 + sl) HGR.out (by omega) (.string (m.s sl)))
        clear hp hset s1 y0 hbo2 HTK hrk h6 h9 hs2
        go_wp2
        go_roundw
        case rel => exact ⟨i + 1, by omega, by go_num, S1.out, S2.out, S3.out, S4.out, S5.out⟩
        case measure => simp [intOf]; omega
      · obtain rfl : ty = 10 := by omega
        have hp := pl_list (m := m) (sl := (sl : Int))
        rw [show ((10 : Nat) : Int) = 10 from rfl, hp.1, hp.2.1, hp.2.2.2, ← HLV.out]
        have hset := clA_lst m (L.take i) (kd, nm, 10, sl, si) lv (Nat.le_refl _)
        rw [← HTK.out] at hset
        have s1 := hbo2.set 9 lv
        rw [hset] at s1
        obtain ⟨u, y0⟩ : ∃ u, (clA m (L.take i) lv)[9]? = some u := ⟨_, Array.getElem?_eq_getElem (by simp [clA, msgA])⟩
        have y1 := hbo2.cell 9
        rw [y0] at y1
        have y2 := hbo2.frozen 9
        have S1 := Lib.hid s1
        have S2 := Lib.hid (HB1'.out.other ⟨w.heap.size + 2, 9, none⟩ lv (by simp))
        have S3 := Lib.hid (HB2'.out.other ⟨w.heap.size + 2, 9, none⟩ lv (by simp))
        have S4 := Lib.hid (own_set HW.out ⟨w.heap.size + 2, 9, none⟩ lv (fun e => HNE.out _ e rfl))
        have S5 := Lib.hid (grew_set (b := w.heap.size + 2) (j := 9) HGR.out (by omega) lv)
        clear hp hset s1 y0 hbo2 HTK hrk h6 h9
        rw [HLV.out] at S1 S2 S3 S4 S5 ⊢
        have HLV2 := HLV
        rw [HLV.out] at HLV2
        go_wp2
        go_roundw
        case rel => exact ⟨i + 1, by omega, by go_num, by rw [HLV.out]; exact S1.out, S2.out, S3.out, S4.out, S5.out⟩
        case measure => simp [intOf]; omega
    · obtain rfl : i = L.length := by omega
      rw [List.take_length] at hbo
      have HBF := Lib.hid hbo
      have HEF := Lib.hid hb2
      have HGW := Lib.hid hgr
      have hone : (clA m L lv).all (·.oneCell') = true := by
        have : clLv L lv = .slice none 0 0 ∨ clLv L lv = .slice a m.l.length c := by
          unfold clLv; rw [HLV.out]; split
          · exact .inr rfl
          · exact .inl rfl
        unfold clA
        rcases this with h | h <;> rw [h] <;> exact msgA_one _ _ _ _
      have HONE := Lib.hid hone
      clear hbo hb2 hgr hone hb1 hro
      go_upto_region 12 with (fail)
      refine wp_region_lit ?_
      refine wpList_load_row rfl 29 _ rfl (w.heap.size + 2) rfl 29 _ (0, 0) _ HBF.out Tryz.underlying29 rfl (by kernel_rfl) ?_
      refine wpList_store_row rfl 29 _ _ rfl (w.heap.size + 1) _ rfl rfl 29 _ HEF.out (by kernel_rfl) rfl HONE.out ?_
      refine wpList_nil ?_
      go_wp2_with fail
      refine bodyPost_ret (results_cell_row rfl _ _ (w.heap.size + 1) 29 _ (0, 0) _ (by kernel_rfl) (HEF.out.row _) Tryz.underlying29 rfl (by kernel_rfl)) rfl ?_
      exact ⟨by rw [HLV.out], below_setRow HGW.out (by omega) _⟩
end Go.Proofs.YtbjoohafgkodcaaGreat
namespace Go.Proofs.YtbjoohafgkodcaaGreat
open Go Go.RowKit Go.Shelf

def errR (m : Msg) (r : Row) : Nat := errM m (rTyp r) (rSlot r)
/-- what is wrong with a message that has these fields, and of which -/
def chkM (m : Msg) (l : List Row) : Nat × Nat :=
  if l = [] then (7, 0) else match l.find? (fun r => errR m r != 0) with
    | some r => (errR m r, r.2.1)
    | none => if sameB (cleanM m l) m = true then (0, 0) else (20, 0)
theorem sameB_symm (a b : Msg) : sameB a b = sameB b a := by
  have h : ∀ {α : Type} [BEq α] [LawfulBEq α] (x y : α), (x == y) = (y == x) := fun x y => by rw [Bool.eq_iff_iff, beq_iff_eq, beq_iff_eq]; exact eq_comm
  unfold sameB
  rw [h a.k b.k, h (nL a) (nL b), h (sL a) (sL b), h a.l b.l]
theorem firstV_nil : firstV ⟨#[]⟩ = -1 := by
  apply firstV_none
  exact firstF_end _ (Nat.lt_irrefl 0)
theorem def_err {m : Msg} {t sl : Int} (h : defB m t sl = true) (h10 : t ≤ 10) : errM m t sl = 0 := by
  unfold defB at h
  simp only [Bool.and_eq_true, beq_iff_eq, List.isEmpty_iff] at h
  obtain ⟨⟨h1, h2⟩, h3⟩ := h
  have e2 : plS m t sl = ⟨#[]⟩ := by
    apply ByteArray.ext
    rw [ByteArray.toList_eq] at h2
    exact (Array.toList_eq_nil_iff.1 h2).trans rfl
  have e3 : plL m t = [] := List.eq_nil_of_length_eq_zero h3
  unfold errM
  rw [h1, e2, e3, if_neg (by omega)]
  split
  · rename_i ht
    have := txt_facts ht
    unfold chkV
    have h0 : (0 : Int) ≤ mostV t := by
      unfold mostV; repeat' split
      all_goals omega
    have hz : (((⟨#[]⟩ : ByteArray).size : Nat) : Int) = 0 := rfl
    rw [hz, if_neg (by omega), firstV_nil]
    rfl
  · rfl
theorem find_none_snoc {l : List Row} {p : Row → Bool} {k : Nat} (hk : k < l.length) (h : (l.take k).find? p = none) (hp : p l[k] = false) : (l.take (k + 1)).find? p = none := by
  rw [List.take_succ_eq_append_getElem hk, List.find?_append, h]; simp [hp]
theorem find_at {l : List Row} {p : Row → Bool} {k : Nat} (hk : k < l.length) (h : (l.take k).find? p = none) (hp : p l[k] = true) : l.find? p = some l[k] := by
  have e : l.find? p = (l.take k ++ l.drop k).find? p := by rw [List.take_append_drop]
  rw [e, List.find?_append, h, List.drop_eq_getElem_cons hk, List.find?_cons_of_pos hp]
  rfl
theorem chk_nil (m : Msg) : chkM m [] = (7, 0) := rfl
theorem chk_at {m : Msg} {l : List Row} {k : Nat} (hk : k < l.length) (h : (l.take k).find? (fun r => errR m r != 0) = none) (hp : errR m l[k] ≠ 0) : chkM m l = (errR m l[k], l[k].2.1) := by
  unfold chkM
  rw [if_neg (fun e => by subst e; simp at hk), find_at hk h (by simpa using hp)]
theorem chk_end {m : Msg} {l : List Row} (hl : l ≠ []) (h : l.find? (fun r => errR m r != 0) = none) : chkM m l = if sameB (cleanM m l) m = true then (0, 0) else (20, 0) := by
  unfold chkM
  rw [if_neg hl, h]
theorem flt_row : (Tryz.prog.info? 32).map (·.size) = some 2 := by kernel_rfl
def fltV (x : Nat × Nat) : Value := .agg #[.int .i64 (x.1 : Nat), .int .i64 (x.2 : Nat)]
set_option maxRecDepth 100000 in
set_option maxHeartbeats 8000000 in
theorem vcheck_any (m : Msg) (lv : Value) (ver : Int) (w : World) (hm : okM m) (hl : Tx w lv m.l) (hlen : m.l.length ≤ 1000000000) :
    Calls Tryz.prog 58 #[.agg (msgA m lv), .int .i64 ver] w fun e w' => e = .returned (fltV (chkM m (ofKind m.k (rowsIn ver)))) ∧ Grew w w' := by
  have KO := Lib.hid (fun W => of_any m.k ver W)
  have KCL := Lib.hid (fun W g => clean_any m lv ver W (hl.grew (g : Grew w W)) hlen)
  have hok := fun r (h : r ∈ ofKind m.k (rowsIn ver)) => of_ok h
  have hle := ofKind_le m.k ver
  generalize ofKind m.k (rowsIn ver) = L at KO KCL hok hle ⊢
  have HOK := Lib.hid hok
  obtain ⟨a, c, rfl⟩ := tx_len hl
  have HL := Lib.hid hl
  have HM := Lib.hid hm
  obtain ⟨W0, hW0⟩ : ∃ W0, W0 = (w.alloc (.cells (msgA m (.slice a m.l.length c)) 29)).alloc (.cells #[.int .i64 0, .int .i64 0] 32) := ⟨_, rfl⟩
  have hg0 : Grew w W0 := by rw [hW0]; exact grew2 _ _ _
  have hz0 : W0.heap.size = w.heap.size + 2 := by rw [hW0]; simp
  have k1 : Blk W0 w.heap.size 29 (msgA m (.slice a m.l.length c)) := by rw [hW0]; exact (Blk.new _ _ _).alloc _
  have k2 : Blk W0 (w.heap.size + 1) 32 #[.int .i64 0, .int .i64 0] := by rw [hW0]; exact Blk.new2 _ _ _ _
  simp only [msgA] at hW0 KCL ⊢
  clear hok hl hm
  go_enter Tryz.func58, Tryz.ntmps58
  go_wp2_with fail
  go_step3
  go_wp2_with fail
  rw [← hW0]
  refine (KO.out _).mono ?_
  rintro e w1 ⟨v1, rfl, r1, g1⟩
  obtain ⟨a1, c1, rfl, -, -, -, -⟩ := (Sl.of_own r1).open
  have q1 := k1.grew g1
  have q2 := k2.grew g1
  have hg1 := hg0.trans g1
  have Q1 := Lib.hid q1
  have Q2 := Lib.hid q2
  have G1 := Lib.hid hg1
  have R1 := Lib.hid r1
  have hli : (L.length : Int) ≤ 40 := by omega
  clear q1 q2 hg1 r1 k1 k2 hg0 g1 hW0 KO hz0
  by_cases hnil : L = []
  · subst hnil
    have hd : decide (0 < ([] : List Row).length) = false := rfl
    rw [hd]
    have q2 := Q2.out
    have f0 := q2.frozen 0
    have f1 := q2.frozen 1
    have y0 := q2.cell 0
    have y1 := q2.cell 1
    simp only [List.getElem?_toArray, List.getElem?_cons_zero, List.getElem?_cons_succ] at y0 y1
    have SB := Lib.hid ((q2.set 0 (.int .i64 7)).set 1 (.int .i64 0))
    have SG := Lib.hid (grew_set (b := w.heap.size + 1) (j := 1) (grew_set (b := w.heap.size + 1) (j := 0) G1.out (by omega) (.int .i64 7)) (by omega) (.int .i64 0))
    clear q2
    go_wp2
    try rw [Exit.noGoto_ret]
    refine bodyPost_ret (results_cell_row rfl _ _ (w.heap.size + 1) 32 #[.int .i64 7, .int .i64 0] (0, 0) _ (by kernel_rfl) SB.out Tryz.underlying32 rfl (by kernel_rfl)) rfl ?_
    exact ⟨by rw [chk_nil]; rfl, SG.out⟩
  have hpos : 0 < L.length := by cases L with | nil => exact absurd rfl hnil | cons _ _ => simp
  have hd : decide (0 < L.length) = true := by simpa using hpos
  rw [hd]
  have HNIL := Lib.hid hnil
  have HPOS := Lib.hid hpos
  clear hnil hd hpos
  go_wp2
  go_step3
  go_wp2
  go_loopw [22] (fun iv wr => ∃ i : Nat, i ≤ L.length ∧ iv = .int .i64 i ∧ RowKit.Hid ((L.take i).find? (fun r => errR m r != 0) = none) ∧ Grew w1 wr) (fun iv _ => L.length - (intOf iv).toNat)
  case atStart => exact ⟨0, Nat.zero_le _, rfl, Lib.hid (by simp), Below.refl _ _⟩
  case round =>
    obtain ⟨i, hi, rfl, hI, hgr⟩ := hrel
    by_cases hlt : i < L.length
    · obtain ⟨a', c', e, -, -, -, hcc⟩ := (Sl.of_own R1.out).open
      cases e
      obtain ⟨b, o, rfl, hcl⟩ := hcc (by omega)
      have hf := fun j hj => flat_get (f := specV) (k := 3) (fun _ => rfl) L i hlt j hj
      have x0 := (below_ext hgr) _ _ (hcl _ _ (hf 0 (by omega)))
      have x1 := (below_ext hgr) _ _ (hcl _ _ (hf 1 (by omega)))
      have x2 := (below_ext hgr) _ _ (hcl _ _ (hf 2 (by omega)))
      simp only [Nat.add_zero, ← Nat.add_assoc] at x0 x1 x2
      have hrk := HOK.out L[i] (List.getElem_mem hlt)
      have hat := fun h => chk_at (m := m) (l := L) (k := i) hlt hI.out h
      have hnx := fun h => find_none_snoc (l := L) (p := fun r => errR m r != 0) (k := i) hlt hI.out h
      generalize L[i] = r at x0 x1 x2 hrk hat hnx
      obtain ⟨kd, nm, ty, sl, si⟩ := r
      simp only [rTyp, rSlot] at hrk
      have her : errR m (kd, nm, ty, sl, si) = errM m (ty : Int) (sl : Int) := rfl
      rw [her] at hat hnx
      have HAT := Lib.hid hat
      have HNX := Lib.hid hnx
      obtain ⟨wa, hwa⟩ : ∃ wa, wa = wr.alloc (.cells #[.int .i64 nm, .int .i64 ty, .int .i64 sl] 82) := ⟨_, rfl⟩
      have ga : Grew wr wa := by rw [hwa]; exact grew_alloc _ _
      have hb1 := (Q1.out.grew hgr).grew ga
      have HB1 := Lib.hid hb1
      have hxb : Blk wa wr.heap.size 82 #[.int .i64 nm, .int .i64 ty, .int .i64 sl] := by rw [hwa]; exact Blk.new _ _ _
      have HXB := Lib.hid hxb
      have HGA := Lib.hid (hgr.trans ga)
      have KD := Lib.hid (fun W => default_any m a c nm (ty : Int) (sl : Int) W)
      have KF := Lib.hid (fun W (g : Grew w W) => vfits_any m a c nm (ty : Int) (sl : Int) W HM.out (HL.out.grew g) (fun h => by have := num_facts h; have := hrk.2.2.1 (by omega); omega) (fun h => by have := txt_facts h; have := hrk.2.2.2 (by omega) (by omega); omega) (by omega) (by omega))
      simp only [msgA] at KD KF
      have hde := fun h => def_err (m := m) (t := (ty : Int)) (sl := (sl : Int)) h (by omega)
      have HDE := Lib.hid hde
      have zi : (i : Int) < (L.length : Int) := by omega
      clear hf hcl hat hnx her hcc hb1 hxb hrk hde
      cases hdb : defB m (ty : Int) (sl : Int) with
      | true =>
        have he0 := HDE.out hdb
        have HN := Lib.hid (HNX.out (by rw [he0]; rfl))
        have HDB := Lib.hid hdb
        clear he0 hdb
        go_upto_region 7 with (fail)
        rw [← hwa]
        obtain ⟨c0, c1', c2, c3, c4, c5, c6, c7, c8, c9⟩ := msg_cells HB1.out
        have d0 := HXB.out.cell 0
        have d1 := HXB.out.cell 1
        have d2 := HXB.out.cell 2
        simp only [List.getElem?_toArray, List.getElem?_cons_zero, List.getElem?_cons_succ] at d0 d1 d2
        clear x0 x1 x2 hwa
        go_wp2_with fail
        refine (KD.out _).mono ?_
        rw [HDB.out]
        rintro e w2 ⟨rfl, g2⟩
        go_wp2
        go_roundw
        case rel => exact ⟨i + 1, by omega, by go_num, HN, HGA.out.trans g2⟩
        case measure => simp [intOf]; omega
      | false =>
        have HDB := Lib.hid hdb
        clear hdb
        go_upto_region 7 with (fail)
        rw [← hwa]
        obtain ⟨c0, c1', c2, c3, c4, c5, c6, c7, c8, c9⟩ := msg_cells HB1.out
        have d0 := HXB.out.cell 0
        have d1 := HXB.out.cell 1
        have d2 := HXB.out.cell 2
        simp only [List.getElem?_toArray, List.getElem?_cons_zero, List.getElem?_cons_succ] at d0 d1 d2
        clear x0 x1 x2 hwa
        go_wp2_with fail
        refine (KD.out _).mono ?_
        rw [HDB.out]
        rintro e w2 ⟨rfl, g2⟩
        clear c0 c1' c2 c3 c4 c5 c6 c7 c8 c9 d0 d1 d2
        obtain ⟨c0, c1', c2, c3, c4, c5, c6, c7, c8, c9⟩ := msg_cells (HB1.out.grew g2)
        have d0 := (HXB.out.grew g2).cell 0
        have d1 := (HXB.out.grew g2).cell 1
        have d2 := (HXB.out.grew g2).cell 2
        simp only [List.getElem?_toArray, List.getElem?_cons_zero, List.getElem?_cons_succ] at d0 d1 d2
        have HG2 := Lib.hid (HGA.out.trans g2)
        have HX2 := Lib.hid (HXB.out.grew g2)
        clear g2
        go_wp2_with fail
        refine (KF.out _ (G1.out.trans HG2.out)).mono ?_
        rintro e w3 ⟨rfl, g3⟩
        have HG3 := Lib.hid (HG2.out.trans g3)
        have HX3 := Lib.hid (HX2.out.grew g3)
        clear c0 c1' c2 c3 c4 c5 c6 c7 c8 c9 d0 d1 d2 g3
        obtain ⟨E, hE⟩ : ∃ E, E = errM m (ty : Int) (sl : Int) := ⟨_, rfl⟩
        rw [← hE] at HAT HNX ⊢
        clear hE
        by_cases he : E = 0
        · subst he
          have HN := Lib.hid (HNX.out rfl)
          go_wp2
          go_roundw
          case rel => exact ⟨i + 1, by omega, by go_num, HN, HG3.out⟩
          case measure => simp [intOf]; omega
        · have HV := Lib.hid (HAT.out he)
          have hne : ((E : Int) != 0) = true := by simp; omega
          have hb3 := Q2.out.grew HG3.out
          have hg3 := G1.out.trans HG3.out
          have d0 := HX3.out.cell 0
          simp only [List.getElem?_toArray, List.getElem?_cons_zero] at d0
          have f0 := hb3.frozen 0
          have f1 := hb3.frozen 1
          have y0 := hb3.cell 0
          have y1 := hb3.cell 1
          simp only [List.getElem?_toArray, List.getElem?_cons_zero, List.getElem?_cons_succ] at y0 y1
          have SB := Lib.hid ((hb3.set 0 (.int .i64 E)).set 1 (.int .i64 nm))
          have SG := Lib.hid (grew_set (b := w.heap.size + 1) (j := 1) (grew_set (b := w.heap.size + 1) (j := 0) hg3 (by omega) (.int .i64 E)) (by omega) (.int .i64 nm))
          clear hb3 hg3 he
          go_wp2
          try rw [Exit.noGoto_ret]
          refine bodyPost_ret (results_cell_row rfl _ _ (w.heap.size + 1) 32 #[.int .i64 E, .int .i64 nm] (0, 0) _ (by kernel_rfl) SB.out Tryz.underlying32 rfl (by kernel_rfl)) rfl ?_
          exact ⟨by rw [HV.out]; rfl, SG.out⟩
    · obtain rfl : i = L.length := by omega
      rw [List.take_length] at hI
      have HV := Lib.hid (chk_end (m := m) HNIL.out hI.out)
      have HGR := Lib.hid hgr
      have HB1 := Lib.hid (Q1.out.grew hgr)
      obtain ⟨c0, c1', c2, c3, c4, c5, c6, c7, c8, c9⟩ := msg_cells HB1.out
      have hgw := G1.out.trans hgr
      have HGW := Lib.hid hgw
      have KC := Lib.hid (KCL.out wr.drew (hgw.trans (Drew.grew ⟨1, rfl⟩)))
      have KS := Lib.hid (fun v W (h1 : Tx W v (cleanM m L).l) (g : Grew w W) => vsame_any (cleanM m L) m v (.slice a m.l.length c) W h1 (HL.out.grew g))
      simp only [msgA] at KC KS
      clear hgr hgw hI
      go_wp2
      go_region_held3 (fun W => W.cell? ⟨w.heap.size, 0, none⟩ = some (.int .u8 m.k) ∧ W.cell? ⟨w.heap.size, 1, none⟩ = some (.int .u64 (m.n 0)) ∧ W.cell? ⟨w.heap.size, 2, none⟩ = some (.int .u64 (m.n 1)) ∧ W.cell? ⟨w.heap.size, 3, none⟩ = some (.int .u64 (m.n 2)) ∧ W.cell? ⟨w.heap.size, 4, none⟩ = some (.int .u64 (m.n 3)) ∧ W.cell? ⟨w.heap.size, 5, none⟩ = some (.int .u64 (m.n 4)) ∧ W.cell? ⟨w.heap.size, 6, none⟩ = some (.int .u64 (m.n 5)) ∧ W.cell? ⟨w.heap.size, 7, none⟩ = some (.string (m.s 0)) ∧ W.cell? ⟨w.heap.size, 8, none⟩ = some (.string (m.s 1)) ∧ W.cell? ⟨w.heap.size, 9, none⟩ = some (.slice a m.l.length c)) (first | go_keep | exact j0) ((first
        | (go_at_call 82; refine KC.out.mono ?_; rintro e2 W2 ⟨v2, rfl, r2, g2, -⟩; have gd := Grew.trans (Drew.grew (⟨1, rfl⟩ : Drew wr wr.drew)) g2; have j0 := msg_cells (HB1.out.grew gd))
        | (go_at_call 19; refine (KS.out _ _ (Sl.of_own r2) (HGW.out.trans gd)).mono ?_; rintro e3 W3 ⟨rfl, g3⟩; have j0 := msg_cells (HB1.out.grew (gd.trans g3)))))
      have hg3 := HGW.out.trans ((Grew.trans (Drew.grew (⟨1, rfl⟩ : Drew wr wr.drew)) g2).trans g3)
      have hb3 := Q2.out.grew (HGR.out.trans ((Grew.trans (Drew.grew (⟨1, rfl⟩ : Drew wr wr.drew)) g2).trans g3))
      clear c0 c1' c2 c3 c4 c5 c6 c7 c8 c9
      cases hs : sameB (cleanM m L) m with
      | true =>
        rw [hs] at HV
        clear hs
        have f0 := hb3.frozen 0
        have f1 := hb3.frozen 1
        have y0 := hb3.cell 0
        have y1 := hb3.cell 1
        simp only [List.getElem?_toArray, List.getElem?_cons_zero, List.getElem?_cons_succ] at y0 y1
        have SB := Lib.hid ((hb3.set 0 (.int .i64 0)).set 1 (.int .i64 0))
        have SG := Lib.hid (grew_set (b := w.heap.size + 1) (j := 1) (grew_set (b := w.heap.size + 1) (j := 0) hg3 (by omega) (.int .i64 0)) (by omega) (.int .i64 0))
        clear hb3 hg3
        go_wp2
        try rw [Exit.noGoto_ret]
        refine bodyPost_ret (results_cell_row rfl _ _ (w.heap.size + 1) 32 #[.int .i64 0, .int .i64 0] (0, 0) _ (by kernel_rfl) SB.out Tryz.underlying32 rfl (by kernel_rfl)) rfl ?_
        exact ⟨by rw [HV.out]; rfl, SG.out⟩
      | false =>
        rw [hs] at HV
        clear hs
        have f0 := hb3.frozen 0
        have f1 := hb3.frozen 1
        have y0 := hb3.cell 0
        have y1 := hb3.cell 1
        simp only [List.getElem?_toArray, List.getElem?_cons_zero, List.getElem?_cons_succ] at y0 y1
        have SB := Lib.hid ((hb3.set 0 (.int .i64 20)).set 1 (.int .i64 0))
        have SG := Lib.hid (grew_set (b := w.heap.size + 1) (j := 1) (grew_set (b := w.heap.size + 1) (j := 0) hg3 (by omega) (.int .i64 20)) (by omega) (.int .i64 0))
        clear hb3 hg3
        go_wp2
        try rw [Exit.noGoto_ret]
        refine bodyPost_ret (results_cell_row rfl _ _ (w.heap.size + 1) 32 #[.int .i64 20, .int .i64 0] (0, 0) _ (by kernel_rfl) SB.out Tryz.underlying32 rfl (by kernel_rfl)) rfl ?_
        exact ⟨by rw [HV.out]; rfl, SG.out⟩
end Go.Proofs.YtbjoohafgkodcaaGreat
namespace Go.Proofs.YtbjoohafgkodcaaGreat
open Go Go.RowKit Go.Shelf

set_option maxRecDepth 100000 in
set_option maxHeartbeats 8000000 in
theorem rcheck9_any (m : Msg) (lv : Value) (ver : Int) (w : World) (hm : okM m) (hl : Tx w lv m.l) :
    Calls Tryz.prog 36 #[.agg (msgA m lv), .int .i64 ver] w fun e w' => e = .returned (fltV (chkM m (ofKind m.k (rowsIn ver)))) ∧ Grew w w' := by
  have KO := Lib.hid (fun W => rof_any m.k ver W)
  obtain ⟨a, c, rfl⟩ := tx_len hl
  have KCL := Lib.hid (fun W => rclean_any m a c ver W)
  have hok := fun r (h : r ∈ ofKind m.k (rowsIn ver)) => of_ok h
  have hle := ofKind_le m.k ver
  generalize ofKind m.k (rowsIn ver) = L at KO KCL hok hle ⊢
  have HOK := Lib.hid hok
  have HL := Lib.hid hl
  have HM := Lib.hid hm
  obtain ⟨W0, hW0⟩ : ∃ W0, W0 = (w.alloc (.cells (msgA m (.slice a m.l.length c)) 29)).alloc (.cells #[.int .i64 0, .int .i64 0] 32) := ⟨_, rfl⟩
  have hg0 : Grew w W0 := by rw [hW0]; exact grew2 _ _ _
  have k1 : Blk W0 w.heap.size 29 (msgA m (.slice a m.l.length c)) := by rw [hW0]; exact (Blk.new _ _ _).alloc _
  have k2 : Blk W0 (w.heap.size + 1) 32 #[.int .i64 0, .int .i64 0] := by rw [hW0]; exact Blk.new2 _ _ _ _
  simp only [clA, msgA] at hW0 KCL ⊢
  clear hok hl hm
  go_enter Tryz.func36, Tryz.ntmps36
  go_wp2_with fail
  rw [← hW0]
  refine (KO.out _).mono ?_
  rintro e w1 ⟨v1, rfl, r1, g1⟩
  obtain ⟨a1, c1, rfl, -, -, -, -⟩ := (Sl.of_own r1).open
  have q1 := k1.grew g1
  have q2 := k2.grew g1
  have hg1 := hg0.trans g1
  have Q1 := Lib.hid q1
  have Q2 := Lib.hid q2
  have G1 := Lib.hid hg1
  have R1 := Lib.hid r1
  have hli : (L.length : Int) ≤ 40 := by omega
  clear q1 q2 hg1 r1 k1 k2 hg0 g1 hW0 KO
  by_cases hnil : L = []
  · subst hnil
    have q2 := Q2.out
    have z0 : ((([] : List Row).length : Int) == 0) = true := rfl
    have f0 := q2.frozen 0
    have f1 := q2.frozen 1
    have y0 := q2.cell 0
    have y1 := q2.cell 1
    simp only [List.getElem?_toArray, List.getElem?_cons_zero, List.getElem?_cons_succ] at y0 y1
    have SB := Lib.hid ((q2.set 0 (.int .i64 7)).set 1 (.int .i64 0))
    have SG := Lib.hid (grew_set (b := w.heap.size + 1) (j := 1) (grew_set (b := w.heap.size + 1) (j := 0) G1.out (by omega) (.int .i64 7)) (by omega) (.int .i64 0))
    clear q2
    go_wp2
    refine bodyPost_ret (results_cell_row rfl _ _ (w.heap.size + 1) 32 #[.int .i64 7, .int .i64 0] (0, 0) _ (by kernel_rfl) SB.out Tryz.underlying32 rfl (by kernel_rfl)) rfl ?_
    exact ⟨by rw [chk_nil]; rfl, SG.out⟩
  have hpos : 0 < L.length := by cases L with | nil => exact absurd rfl hnil | cons _ _ => simp
  have z0 : ((L.length : Int) == 0) = false := by simp; omega
  have HNIL := Lib.hid hnil
  clear hnil hpos
  go_wp2
  go_loopw [6] (fun iv wr => ∃ i : Nat, i ≤ L.length ∧ iv = .int .i64 i ∧ RowKit.Hid ((L.take i).find? (fun r => errR m r != 0) = none) ∧ Grew w1 wr) (fun iv _ => L.length - (intOf iv).toNat)
  case atStart => exact ⟨0, Nat.zero_le _, rfl, Lib.hid (by simp), Below.refl _ _⟩
  case round =>
    obtain ⟨i, hi, rfl, hI, hgr⟩ := hrel
    by_cases hlt : i < L.length
    · obtain ⟨a', c', e, -, -, -, hcc⟩ := (Sl.of_own R1.out).open
      cases e
      obtain ⟨b, o, rfl, hcl⟩ := hcc (by omega)
      have hf := fun j hj => flat_get (f := specV) (k := 3) (fun _ => rfl) L i hlt j hj
      have x0 := (below_ext hgr) _ _ (hcl _ _ (hf 0 (by omega)))
      have x1 := (below_ext hgr) _ _ (hcl _ _ (hf 1 (by omega)))
      have x2 := (below_ext hgr) _ _ (hcl _ _ (hf 2 (by omega)))
      simp only [Nat.add_zero, ← Nat.add_assoc] at x0 x1 x2
      have hat := fun h => chk_at (m := m) (l := L) (k := i) hlt hI.out h
      have hnx := fun h => find_none_snoc (l := L) (p := fun r => errR m r != 0) (k := i) hlt hI.out h
      generalize L[i] = r at x0 x1 x2 hat hnx
      obtain ⟨kd, nm, ty, sl, si⟩ := r
      have her : errR m (kd, nm, ty, sl, si) = errM m (ty : Int) (sl : Int) := rfl
      rw [her] at hat hnx
      have HAT := Lib.hid hat
      have HNX := Lib.hid hnx
      have HB1 := Lib.hid (Q1.out.grew hgr)
      have HGA := Lib.hid hgr
      have KF := Lib.hid (fun W (g : Grew w W) => one9_any m a c nm (ty : Int) (sl : Int) W HM.out (HL.out.grew g))
      simp only [msgA] at KF
      have X0 := Lib.hid x0
      have X1 := Lib.hid x1
      have X2 := Lib.hid x2
      have zi0 : (0 : Int) ≤ (i : Int) := by omega
      have zi : (i : Int) < (L.length : Int) := by omega
      obtain ⟨c0, c1', c2, c3, c4, c5, c6, c7, c8, c9⟩ := msg_cells HB1.out
      clear hf hcl hat hnx her hcc
      go_wp2
      go_region_held3 (fun W => (W.cell? ⟨w.heap.size, 0, none⟩ = some (.int .u8 m.k) ∧ W.cell? ⟨w.heap.size, 1, none⟩ = some (.int .u64 (m.n 0)) ∧ W.cell? ⟨w.heap.size, 2, none⟩ = some (.int .u64 (m.n 1)) ∧ W.cell? ⟨w.heap.size, 3, none⟩ = some (.int .u64 (m.n 2)) ∧ W.cell? ⟨w.heap.size, 4, none⟩ = some (.int .u64 (m.n 3)) ∧ W.cell? ⟨w.heap.size, 5, none⟩ = some (.int .u64 (m.n 4)) ∧ W.cell? ⟨w.heap.size, 6, none⟩ = some (.int .u64 (m.n 5)) ∧ W.cell? ⟨w.heap.size, 7, none⟩ = some (.string (m.s 0)) ∧ W.cell? ⟨w.heap.size, 8, none⟩ = some (.string (m.s 1)) ∧ W.cell? ⟨w.heap.size, 9, none⟩ = some (.slice a m.l.length c)) ∧ W.cell? ⟨b, o + i * 3, none⟩ = some (.int .i64 nm) ∧ W.cell? ⟨b, o + i * 3 + 1, none⟩ = some (.int .i64 ty) ∧ W.cell? ⟨b, o + i * 3 + 2, none⟩ = some (.int .i64 sl)) (first | go_keep | exact ⟨j0, j1, j2, j3⟩) ((go_at_call 60; refine (KF.out _ ((G1.out.trans HGA.out).trans (Drew.grew ⟨1, rfl⟩))).mono ?_; rintro e2 W2 ⟨rfl, g2⟩; have gd := Grew.trans (Drew.grew (⟨1, rfl⟩ : Drew wr wr.drew)) g2; have j0 := msg_cells (HB1.out.grew gd); have j1 := (below_ext gd) _ _ X0.out; have j2 := (below_ext gd) _ _ X1.out; have j3 := (below_ext gd) _ _ X2.out))
      have gd := Grew.trans (Drew.grew (⟨1, rfl⟩ : Drew wr wr.drew)) g2
      have d0 := (below_ext gd) _ _ X0.out
      have HG3 := Lib.hid (HGA.out.trans gd)
      clear c0 c1' c2 c3 c4 c5 c6 c7 c8 c9 x0 x1 x2 gd g2
      obtain ⟨E, hE⟩ : ∃ E, E = errM m (ty : Int) (sl : Int) := ⟨_, rfl⟩
      rw [← hE] at HAT HNX ⊢
      clear hE
      by_cases he : E = 0
      · subst he
        have HN := Lib.hid (HNX.out rfl)
        go_wp2
        go_roundw
        case rel => exact ⟨i + 1, by omega, by go_num, HN, HG3.out⟩
        case measure => simp [intOf]; omega
      · have HV := Lib.hid (HAT.out he)
        have hne : ((E : Int) != 0) = true := by simp; omega
        have hb3 := Q2.out.grew HG3.out
        have hg3 := G1.out.trans HG3.out
        have f0 := hb3.frozen 0
        have f1 := hb3.frozen 1
        have y0 := hb3.cell 0
        have y1 := hb3.cell 1
        simp only [List.getElem?_toArray, List.getElem?_cons_zero, List.getElem?_cons_succ] at y0 y1
        have SB := Lib.hid ((hb3.set 0 (.int .i64 E)).set 1 (.int .i64 nm))
        have SG := Lib.hid (grew_set (b := w.heap.size + 1) (j := 1) (grew_set (b := w.heap.size + 1) (j := 0) hg3 (by omega) (.int .i64 E)) (by omega) (.int .i64 nm))
        clear hb3 hg3 he
        go_wp2
        refine bodyPost_ret (results_cell_row rfl _ _ (w.heap.size + 1) 32 #[.int .i64 E, .int .i64 nm] (0, 0) _ (by kernel_rfl) SB.out Tryz.underlying32 rfl (by kernel_rfl)) rfl ?_
        exact ⟨by rw [HV.out]; rfl, SG.out⟩
    · obtain rfl : i = L.length := by omega
      rw [List.take_length] at hI
      have HV := Lib.hid (chk_end (m := m) HNIL.out hI.out)
      have HGR := Lib.hid hgr
      have HB1 := Lib.hid (Q1.out.grew hgr)
      obtain ⟨c0, c1', c2, c3, c4, c5, c6, c7, c8, c9⟩ := msg_cells HB1.out
      have HGW := Lib.hid (G1.out.trans hgr)
      have KS := Lib.hid (fun W (g : Grew w W) => rsame9_any m (cleanM m L) (.slice a m.l.length c) (clLv L (.slice a m.l.length c)) W (HL.out.grew g) (clLv_tx (HL.out.grew g)))
      simp only [msgA] at KS
      clear hgr hI
      go_wp2
      go_region_held3 (fun W => W.cell? ⟨w.heap.size, 0, none⟩ = some (.int .u8 m.k) ∧ W.cell? ⟨w.heap.size, 1, none⟩ = some (.int .u64 (m.n 0)) ∧ W.cell? ⟨w.heap.size, 2, none⟩ = some (.int .u64 (m.n 1)) ∧ W.cell? ⟨w.heap.size, 3, none⟩ = some (.int .u64 (m.n 2)) ∧ W.cell? ⟨w.heap.size, 4, none⟩ = some (.int .u64 (m.n 3)) ∧ W.cell? ⟨w.heap.size, 5, none⟩ = some (.int .u64 (m.n 4)) ∧ W.cell? ⟨w.heap.size, 6, none⟩ = some (.int .u64 (m.n 5)) ∧ W.cell? ⟨w.heap.size, 7, none⟩ = some (.string (m.s 0)) ∧ W.cell? ⟨w.heap.size, 8, none⟩ = some (.string (m.s 1)) ∧ W.cell? ⟨w.heap.size, 9, none⟩ = some (.slice a m.l.length c)) (first | go_keep | exact j0) ((first
        | (go_at_call 61; refine (KCL.out _).mono ?_; rintro e2 W2 ⟨rfl, g2⟩; have gd := Grew.trans (Drew.grew (⟨1, rfl⟩ : Drew wr wr.drew)) g2; have j0 := msg_cells (HB1.out.grew gd))
        | (go_at_call 10; refine (KS.out _ (HGW.out.trans gd)).mono ?_; rintro e3 W3 ⟨rfl, g3⟩; have j0 := msg_cells (HB1.out.grew (gd.trans g3)))))
      have hg3 := HGW.out.trans ((Grew.trans (Drew.grew (⟨1, rfl⟩ : Drew wr wr.drew)) g2).trans g3)
      have hb3 := Q2.out.grew (HGR.out.trans ((Grew.trans (Drew.grew (⟨1, rfl⟩ : Drew wr wr.drew)) g2).trans g3))
      clear c0 c1' c2 c3 c4 c5 c6 c7 c8 c9
      rw [sameB_symm] at HV
      cases hs : sameB m (cleanM m L) with
      | true =>
        rw [hs] at HV
        clear hs
        have f0 := hb3.frozen 0
        have f1 := hb3.frozen 1
        have y0 := hb3.cell 0
        have y1 := hb3.cell 1
        simp only [List.getElem?_toArray, List.getElem?_cons_zero, List.getElem?_cons_succ] at y0 y1
        have SB := Lib.hid ((hb3.set 0 (.int .i64 0)).set 1 (.int .i64 0))
        have SG := Lib.hid (grew_set (b := w.heap.size + 1) (j := 1) (grew_set (b := w.heap.size + 1) (j := 0) hg3 (by omega) (.int .i64 0)) (by omega) (.int .i64 0))
        clear hb3 hg3
        go_wp2
        refine bodyPost_ret (results_cell_row rfl _ _ (w.heap.size + 1) 32 #[.int .i64 0, .int .i64 0] (0, 0) _ (by kernel_rfl) SB.out Tryz.underlying32 rfl (by kernel_rfl)) rfl ?_
        exact ⟨by rw [HV.out]; rfl, SG.out⟩
      | false =>
        rw [hs] at HV
        clear hs
        have f0 := hb3.frozen 0
        have f1 := hb3.frozen 1
        have y0 := hb3.cell 0
        have y1 := hb3.cell 1
        simp only [List.getElem?_toArray, List.getElem?_cons_zero, List.getElem?_cons_succ] at y0 y1
        have SB := Lib.hid ((hb3.set 0 (.int .i64 20)).set 1 (.int .i64 0))
        have SG := Lib.hid (grew_set (b := w.heap.size + 1) (j := 1) (grew_set (b := w.heap.size + 1) (j := 0) hg3 (by omega) (.int .i64 20)) (by omega) (.int .i64 0))
        clear hb3 hg3
        go_wp2
        refine bodyPost_ret (results_cell_row rfl _ _ (w.heap.size + 1) 32 #[.int .i64 20, .int .i64 0] (0, 0) _ (by kernel_rfl) SB.out Tryz.underlying32 rfl (by kernel_rfl)) rfl ?_
        exact ⟨by rw [HV.out]; rfl, SG.out⟩
end Go.Proofs.YtbjoohafgkodcaaGreat
