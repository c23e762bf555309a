/- rescriptref09.Check: contract. -/
import Derived.Test.YtgoaijpckckdnaaVa8
namespace Go.Proofs.Ytgoaijpckckdnaa
open Go Go.RowKit Go.Shelf

set_option maxRecDepth 100000 in
set_option maxHeartbeats 8000000 in
theorem rcheck9_any (m : Msg) (lv : Value) (ver : Int) (w : World) (hm : okM m) (hl : Tx w lv m.l) :
    Calls Try.prog 77 #[.agg (msgA m lv), .int .i64 ver] w fun e w' => e = .returned (fltV (chkM m (ofKind m.k (rowsIn ver)))) ∧ Grew w w' := by
  have KO := Lib.hid (fun W => rof_any m.k ver W)
  obtain ⟨a, c, rfl⟩ := tx_len hl
  have KCL := Lib.hid (fun W => rclean_any m a c ver W)
  have hok := fun r (h : r ∈ ofKind m.k (rowsIn ver)) => of_ok h
  have hle := ofKind_le m.k ver
  generalize ofKind m.k (rowsIn ver) = L at KO KCL hok hle ⊢
  have HOK := Lib.hid hok
  have HL := Lib.hid hl
  have HM := Lib.hid hm
  obtain ⟨W0, hW0⟩ : ∃ W0, W0 = (w.alloc (.cells (msgA m (.slice a m.l.length c)) 57)).alloc (.cells #[.int .i64 0, .int .i64 0] 27) := ⟨_, rfl⟩
  have hg0 : Grew w W0 := by rw [hW0]; exact grew2 _ _ _
  have k1 : Blk W0 w.heap.size 57 (msgA m (.slice a m.l.length c)) := by rw [hW0]; exact (Blk.new _ _ _).alloc _
  have k2 : Blk W0 (w.heap.size + 1) 27 #[.int .i64 0, .int .i64 0] := by rw [hW0]; exact Blk.new2 _ _ _ _
  simp only [clA, msgA] at hW0 KCL ⊢
  clear hok hl hm
  go_enter Try.func77, Try.ntmps77
  go_wp2_with fail
  rw [← hW0]
  refine (KO.out _).mono ?_
  rintro e w1 ⟨v1, rfl, r1, g1⟩
  obtain ⟨a1, c1, rfl, -, -, -, -⟩ := (Sl.of_own r1).open
  have q1 := k1.grew g1
  have q2 := k2.grew g1
  have hg1 := hg0.trans g1
  have Q1 := Lib.hid q1
  have Q2 := Lib.hid q2
  have G1 := Lib.hid hg1
  have R1 := Lib.hid r1
  have hli : (L.length : Int) ≤ 40 := by omega
  clear q1 q2 hg1 r1 k1 k2 hg0 g1 hW0 KO
  by_cases hnil : L = []
  · subst hnil
    have q2 := Q2.out
    have z0 : ((([] : List Row).length : Int) == 0) = true := rfl
    have f0 := q2.frozen 0
    have f1 := q2.frozen 1
    have y0 := q2.cell 0
    have y1 := q2.cell 1
    simp only [List.getElem?_toArray, List.getElem?_cons_zero, List.getElem?_cons_succ] at y0 y1
    have SB := Lib.hid ((q2.set 0 (.int .i64 7)).set 1 (.int .i64 0))
    have SG := Lib.hid (grew_set (b := w.heap.size + 1) (j := 1) (grew_set (b := w.heap.size + 1) (j := 0) G1.out (by omega) (.int .i64 7)) (by omega) (.int .i64 0))
    clear q2
    go_wp2
    refine bodyPost_ret (results_cell_row rfl _ _ (w.heap.size + 1) 27 #[.int .i64 7, .int .i64 0] (0, 0) _ (by kernel_rfl) SB.out Try.underlying27 rfl (by kernel_rfl)) rfl ?_
    exact ⟨by rw [chk_nil]; rfl, SG.out⟩
  have hpos : 0 < L.length := by cases L with | nil => exact absurd rfl hnil | cons _ _ => simp
  have z0 : ((L.length : Int) == 0) = false := by simp; omega
  have HNIL := Lib.hid hnil
  clear hnil hpos
  go_wp2
  go_loopw [6] (fun iv wr => ∃ i : Nat, i ≤ L.length ∧ iv = .int .i64 i ∧ RowKit.Hid ((L.take i).find? (fun r => errR m r != 0) = none) ∧ Grew w1 wr) (fun iv _ => L.length - (intOf iv).toNat)
  case atStart => exact ⟨0, Nat.zero_le _, rfl, Lib.hid (by simp), Below.refl _ _⟩
  case round =>
    obtain ⟨i, hi, rfl, hI, hgr⟩ := hrel
    by_cases hlt : i < L.length
    · obtain ⟨a', c', e, -, -, -, hcc⟩ := (Sl.of_own R1.out).open
      cases e
      obtain ⟨b, o, rfl, hcl⟩ := hcc (by omega)
      have hf := fun j hj => flat_get (f := specV) (k := 3) (fun _ => rfl) L i hlt j hj
      have x0 := (below_ext hgr) _ _ (hcl _ _ (hf 0 (by omega)))
      have x1 := (below_ext hgr) _ _ (hcl _ _ (hf 1 (by omega)))
      have x2 := (below_ext hgr) _ _ (hcl _ _ (hf 2 (by omega)))
      simp only [Nat.add_zero, ← Nat.add_assoc] at x0 x1 x2
      have hat := fun h => chk_at (m := m) (l := L) (k := i) hlt hI.out h
      have hnx := fun h => find_none_snoc (l := L) (p := fun r => errR m r != 0) (k := i) hlt hI.out h
      generalize L[i] = r at x0 x1 x2 hat hnx
      obtain ⟨kd, nm, ty, sl, si⟩ := r
      have her : errR m (kd, nm, ty, sl, si) = errM m (ty : Int) (sl : Int) := rfl
      rw [her] at hat hnx
      have HAT := Lib.hid hat
      have HNX := Lib.hid hnx
      have HB1 := Lib.hid (Q1.out.grew hgr)
      have HGA := Lib.hid hgr
      have KF := Lib.hid (fun W (g : Grew w W) => one9_any m a c nm (ty : Int) (sl : Int) W HM.out (HL.out.grew g))
      simp only [msgA] at KF
      have X0 := Lib.hid x0
      have X1 := Lib.hid x1
      have X2 := Lib.hid x2
      have zi0 : (0 : Int) ≤ (i : Int) := by omega
      have zi : (i : Int) < (L.length : Int) := by omega
      obtain ⟨c0, c1', c2, c3, c4, c5, c6, c7, c8, c9⟩ := msg_cells HB1.out
      clear hf hcl hat hnx her hcc
      go_wp2
      go_region_held3 (fun W => (W.cell? ⟨w.heap.size, 0, none⟩ = some (.int .u8 m.k) ∧ W.cell? ⟨w.heap.size, 1, none⟩ = some (.int .u64 (m.n 0)) ∧ W.cell? ⟨w.heap.size, 2, none⟩ = some (.int .u64 (m.n 1)) ∧ W.cell? ⟨w.heap.size, 3, none⟩ = some (.int .u64 (m.n 2)) ∧ W.cell? ⟨w.heap.size, 4, none⟩ = some (.int .u64 (m.n 3)) ∧ W.cell? ⟨w.heap.size, 5, none⟩ = some (.int .u64 (m.n 4)) ∧ W.cell? ⟨w.heap.size, 6, none⟩ = some (.int .u64 (m.n 5)) ∧ W.cell? ⟨w.heap.size, 7, none⟩ = some (.string (m.s 0)) ∧ W.cell? ⟨w.heap.size, 8, none⟩ = some (.string (m.s 1)) ∧ W.cell? ⟨w.heap.size, 9, none⟩ = some (.slice a m.l.length c)) ∧ W.cell? ⟨b, o + i * 3, none⟩ = some (.int .i64 nm) ∧ W.cell? ⟨b, o + i * 3 + 1, none⟩ = some (.int .i64 ty) ∧ W.cell? ⟨b, o + i * 3 + 2, none⟩ = some (.int .i64 sl)) (first | go_keep | exact ⟨j0, j1, j2, j3⟩) ((go_at_call 123; refine (KF.out _ ((G1.out.trans HGA.out).trans (Drew.grew ⟨1, rfl⟩))).mono ?_; rintro e2 W2 ⟨rfl, g2⟩; have gd := Grew.trans (Drew.grew (⟨1, rfl⟩ : Drew wr wr.drew)) g2; have j0 := msg_cells (HB1.out.grew gd); have j1 := (below_ext gd) _ _ X0.out; have j2 := (below_ext gd) _ _ X1.out; have j3 := (below_ext gd) _ _ X2.out))
      have gd := Grew.trans (Drew.grew (⟨1, rfl⟩ : Drew wr wr.drew)) g2
      have d0 := (below_ext gd) _ _ X0.out
      have HG3 := Lib.hid (HGA.out.trans gd)
      clear c0 c1' c2 c3 c4 c5 c6 c7 c8 c9 x0 x1 x2 gd g2
      obtain ⟨E, hE⟩ : ∃ E, E = errM m (ty : Int) (sl : Int) := ⟨_, rfl⟩
      rw [← hE] at HAT HNX ⊢
      clear hE
      by_cases he : E = 0
      · subst he
        have HN := Lib.hid (HNX.out rfl)
        go_wp2
        go_roundw
        case rel => exact ⟨i + 1, by omega, by go_num, HN, HG3.out⟩
        case measure => simp [intOf]; omega
      · have HV := Lib.hid (HAT.out he)
        have hne : ((E : Int) != 0) = true := by simp; omega
        have hb3 := Q2.out.grew HG3.out
        have hg3 := G1.out.trans HG3.out
        have f0 := hb3.frozen 0
        have f1 := hb3.frozen 1
        have y0 := hb3.cell 0
        have y1 := hb3.cell 1
        simp only [List.getElem?_toArray, List.getElem?_cons_zero, List.getElem?_cons_succ] at y0 y1
        have SB := Lib.hid ((hb3.set 0 (.int .i64 E)).set 1 (.int .i64 nm))
        have SG := Lib.hid (grew_set (b := w.heap.size + 1) (j := 1) (grew_set (b := w.heap.size + 1) (j := 0) hg3 (by omega) (.int .i64 E)) (by omega) (.int .i64 nm))
        clear hb3 hg3 he
        go_wp2
        refine bodyPost_ret (results_cell_row rfl _ _ (w.heap.size + 1) 27 #[.int .i64 E, .int .i64 nm] (0, 0) _ (by kernel_rfl) SB.out Try.underlying27 rfl (by kernel_rfl)) rfl ?_
        exact ⟨by rw [HV.out]; rfl, SG.out⟩
    · obtain rfl : i = L.length := by omega
      rw [List.take_length] at hI
      have HV := Lib.hid (chk_end (m := m) HNIL.out hI.out)
      have HGR := Lib.hid hgr
      have HB1 := Lib.hid (Q1.out.grew hgr)
      obtain ⟨c0, c1', c2, c3, c4, c5, c6, c7, c8, c9⟩ := msg_cells HB1.out
      have HGW := Lib.hid (G1.out.trans hgr)
      have KS := Lib.hid (fun W (g : Grew w W) => rsame9_any m (cleanM m L) (.slice a m.l.length c) (clLv L (.slice a m.l.length c)) W (HL.out.grew g) (clLv_tx (HL.out.grew g)))
      simp only [msgA] at KS
      clear hgr hI
      go_wp2
      go_region_held3 (fun W => W.cell? ⟨w.heap.size, 0, none⟩ = some (.int .u8 m.k) ∧ W.cell? ⟨w.heap.size, 1, none⟩ = some (.int .u64 (m.n 0)) ∧ W.cell? ⟨w.heap.size, 2, none⟩ = some (.int .u64 (m.n 1)) ∧ W.cell? ⟨w.heap.size, 3, none⟩ = some (.int .u64 (m.n 2)) ∧ W.cell? ⟨w.heap.size, 4, none⟩ = some (.int .u64 (m.n 3)) ∧ W.cell? ⟨w.heap.size, 5, none⟩ = some (.int .u64 (m.n 4)) ∧ W.cell? ⟨w.heap.size, 6, none⟩ = some (.int .u64 (m.n 5)) ∧ W.cell? ⟨w.heap.size, 7, none⟩ = some (.string (m.s 0)) ∧ W.cell? ⟨w.heap.size, 8, none⟩ = some (.string (m.s 1)) ∧ W.cell? ⟨w.heap.size, 9, none⟩ = some (.slice a m.l.length c)) (first | go_keep | exact j0) ((first
        | (go_at_call 125; refine (KCL.out _).mono ?_; rintro e2 W2 ⟨rfl, g2⟩; have gd := Grew.trans (Drew.grew (⟨1, rfl⟩ : Drew wr wr.drew)) g2; have j0 := msg_cells (HB1.out.grew gd))
        | (go_at_call 124; refine (KS.out _ (HGW.out.trans gd)).mono ?_; rintro e3 W3 ⟨rfl, g3⟩; have j0 := msg_cells (HB1.out.grew (gd.trans g3)))))
      have hg3 := HGW.out.trans ((Grew.trans (Drew.grew (⟨1, rfl⟩ : Drew wr wr.drew)) g2).trans g3)
      have hb3 := Q2.out.grew (HGR.out.trans ((Grew.trans (Drew.grew (⟨1, rfl⟩ : Drew wr wr.drew)) g2).trans g3))
      clear c0 c1' c2 c3 c4 c5 c6 c7 c8 c9
      rw [sameB_symm] at HV
      cases hs : sameB m (cleanM m L) with
      | true =>
        rw [hs] at HV
        clear hs
        have f0 := hb3.frozen 0
        have f1 := hb3.frozen 1
        have y0 := hb3.cell 0
        have y1 := hb3.cell 1
        simp only [List.getElem?_toArray, List.getElem?_cons_zero, List.getElem?_cons_succ] at y0 y1
        have SB := Lib.hid ((hb3.set 0 (.int .i64 0)).set 1 (.int .i64 0))
        have SG := Lib.hid (grew_set (b := w.heap.size + 1) (j := 1) (grew_set (b := w.heap.size + 1) (j := 0) hg3 (by omega) (.int .i64 0)) (by omega) (.int .i64 0))
        clear hb3 hg3
        go_wp2
        refine bodyPost_ret (results_cell_row rfl _ _ (w.heap.size + 1) 27 #[.int .i64 0, .int .i64 0] (0, 0) _ (by kernel_rfl) SB.out Try.underlying27 rfl (by kernel_rfl)) rfl ?_
        exact ⟨by rw [HV.out]; rfl, SG.out⟩
      | false =>
        rw [hs] at HV
        clear hs
        have f0 := hb3.frozen 0
        have f1 := hb3.frozen 1
        have y0 := hb3.cell 0
        have y1 := hb3.cell 1
        simp only [List.getElem?_toArray, List.getElem?_cons_zero, List.getElem?_cons_succ] at y0 y1
        have SB := Lib.hid ((hb3.set 0 (.int .i64 20)).set 1 (.int .i64 0))
        have SG := Lib.hid (grew_set (b := w.heap.size + 1) (j := 1) (grew_set (b := w.heap.size + 1) (j := 0) hg3 (by omega) (.int .i64 20)) (by omega) (.int .i64 0))
        clear hb3 hg3
        go_wp2
        refine bodyPost_ret (results_cell_row rfl _ _ (w.heap.size + 1) 27 #[.int .i64 20, .int .i64 0] (0, 0) _ (by kernel_rfl) SB.out Try.underlying27 rfl (by kernel_rfl)) rfl ?_
        exact ⟨by rw [HV.out]; rfl, SG.out⟩
end Go.Proofs.Ytgoaijpckckdnaa
