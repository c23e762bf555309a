/- rescriptref11.Set: contract. -/
import Derived.Test.YtbjoohafgkodcaaGreatWl1
namespace Go.Proofs.YtbjoohafgkodcaaGreat
open Go Go.RowKit Go.Shelf
attribute [local go_sem] Oper.semAt_some

/-- what the reference's Set returns -/
def RSetP (m : Msg) (lv : Value) (t sl : Int) (x : Fld) (w : World) (e : Ending) (w' : World) : Prop :=
  ∃ v, e = .returned (.tuple #[.agg (msgA (setM m t sl x).1 v), .int .i64 ((setM m t sl x).2 : Nat)]) ∧ ((v = lv ∧ (setM m t sl x).1.l = m.l) ∨ OwnT w' w.heap.size v (setM m t sl x).1.l) ∧ Grew w w'
set_option maxRecDepth 100000 in
set_option maxHeartbeats 8000000 in
theorem rset_any (m : Msg) (lv : Value) (num t sl : Int) (x : Fld) (xv : Value) (w : World) (hl : Tx w lv m.l) (hlen : m.l.length ≤ 1000000) (hb : Bs w xv (fB x)) (hbl : (fB x).length ≤ 100000000) (hn : fN x < 18446744073709551616) :
    Calls Tryz.prog 52 #[.agg (msgA m lv), .agg #[.int .i64 num, .int .i64 t, .int .i64 sl], fldA x xv] w (RSetP m lv t sl x w) := by
  obtain ⟨a, c, rfl⟩ := tx_len hl
  obtain ⟨xa, xc, rfl⟩ := bs_len hb
  obtain ⟨W0, hW0⟩ : ∃ W0, W0 = (((w.alloc (.cells (msgA m (.slice a m.l.length c)) 29)).alloc (.cells #[.int .i64 num, .int .i64 t, .int .i64 sl] 82)).alloc (.cells #[.int .i64 x.1, .int .u8 (x.2.1 : Nat), .int .u64 (x.2.2.1 : Nat), .slice xa (fB x).length xc, .int .i64 x.2.2.2.2] 101)).alloc (.cells zMsg 29) := ⟨_, rfl⟩
  have g0 : Grew w W0 := by rw [hW0]; exact ((((Below.refl _ _).alloc (Nat.le_refl _) _).alloc (by simp) _).alloc (by simp; omega) _).alloc (by simp; omega) _
  have k0 : Blk W0 w.heap.size 29 (msgA m (.slice a m.l.length c)) := by rw [hW0]; exact (((Blk.new _ _ _).alloc _).alloc _).alloc _
  have k1 : Blk W0 (w.heap.size + 1) 82 #[.int .i64 num, .int .i64 t, .int .i64 sl] := by rw [hW0]; exact ((Blk.at (by simp)).alloc _).alloc _
  have k2 : Blk W0 (w.heap.size + 1 + 1) 101 #[.int .i64 x.1, .int .u8 (x.2.1 : Nat), .int .u64 (x.2.2.1 : Nat), .slice xa (fB x).length xc, .int .i64 x.2.2.2.2] := by rw [hW0]; exact (Blk.at (by simp)).alloc _
  have k3 : Blk W0 (w.heap.size + 1 + 1 + 1) 29 zMsg := by rw [hW0]; exact Blk.at (by simp)
  have G0 := Lib.hid g0
  have K0 := Lib.hid k0
  have K1 := Lib.hid k1
  have K2 := Lib.hid k2
  have K3 := Lib.hid k3
  have HL := Lib.hid hl
  have HBw := Lib.hid hb
  have HB0 := Lib.hid (hb.grew g0)
  have HN := Lib.hid hn
  simp only [msgA, zMsg] at hW0 ⊢
  clear g0 k0 k1 k2 k3 hl hb
  go_enter Tryz.func52, Tryz.ntmps52
  go_upto_region 1 with (fail)
  rw [← hW0]
  clear hW0
  have s1 := K1.out.cell 1
  have s2 := K1.out.cell 2
  simp only [List.getElem?_toArray, List.getElem?_cons_zero, List.getElem?_cons_succ] at s1 s2
  obtain ⟨y0, y1, y2, y3, y4, -⟩ := cells5 K2.out
  by_cases hnu : (1 ≤ t ∧ t ≤ 6) ∧ 0 ≤ sl ∧ sl < 6
  · obtain ⟨⟨h1, h6⟩, h0, h2⟩ := hnu
    have hnb := numB_iff.2 ⟨h1, h6⟩
    obtain ⟨k, rfl⟩ := Int.eq_ofNat_of_zero_le h0
    have hk : k < 6 := by omega
    have HS := Lib.hid (show setM m t (k : Int) x = (⟨m.k, fun i => if i = k then numV t (fN x) else m.n i, m.s, m.l⟩, 0) by unfold setM; rw [if_neg (by omega), if_neg (fun h => by have := txtB_iff.1 h.1; omega), if_pos ⟨hnb, h0, h2⟩, Int.toNat_natCast])
    have cS := K0.out.cell (1 + k)
    rw [msgA_getN _ _ _ hk] at cS
    have zS := K0.out.frozen (1 + k)
    have p1 : decide (t ≥ 1) = true := decide_eq_true (by omega)
    have p2 : decide (t ≤ 6) = true := decide_eq_true (by omega)
    have p3 : decide (t ≥ 7) = false := decide_eq_false (by omega)
    have H6 := Lib.hid h6
    clear hnb h0
    by_cases c1 : t = 1
    · have HV := Lib.hid (show ((numV t (fN x) : Nat) : Int) = (fN x : Int) % 4294967296 by unfold numV; rw [if_pos c1]; omega)
      subst c1
      clear p1 p2 p3 h1 h6
      go_upto_region 33 with (fail)
      have S1 : Blk (W0.setCell ⟨w.heap.size, 1 + k, none⟩ (.int .u64 ((fN x : Int) % 4294967296))) w.heap.size 29 (msgA ⟨m.k, fun i => if i = k then numV 1 (fN x) else m.n i, m.s, m.l⟩ (.slice a m.l.length c)) := by
                have h := K0.out.set (1 + k) (.int .u64 ((fN x : Int) % 4294967296))
                rw [show (.int .u64 ((fN x : Int) % 4294967296) : Value) = .int .u64 (numV 1 (fN x) : Nat) from by rw [HV.out], msgA_setN _ _ _ _ hk] at h
                rw [show (.int .u64 ((fN x : Int) % 4294967296) : Value) = .int .u64 (numV 1 (fN x) : Nat) from by rw [HV.out]]
                exact h
      have S2 : Blk (W0.setCell ⟨w.heap.size, 1 + k, none⟩ (.int .u64 ((fN x : Int) % 4294967296))) (w.heap.size + 1 + 1 + 1) 29 (msgA mZ (.slice none 0 0)) := K3.out.other ⟨w.heap.size, 1 + k, none⟩ _ (by simp; omega)
      have S4 : Grew w (W0.setCell ⟨w.heap.size, 1 + k, none⟩ (.int .u64 ((fN x : Int) % 4294967296))) := grew_set G0.out (Nat.le_refl _) _
      refine wp_region_lit ?_
      refine wpList_load_row rfl 29 _ rfl w.heap.size rfl 29 _ (0, 0) _ S1 Tryz.underlying29 rfl (by kernel_rfl) ?_
      refine wpList_store_row rfl 29 _ _ rfl (w.heap.size + 1 + 1 + 1) _ rfl rfl 29 _ S2 (by kernel_rfl) rfl (msgA_one _ _ _ _) ?_
      have S5 := S2.row (msgA ⟨m.k, fun i => if i = k then numV 1 (fN x) else m.n i, m.s, m.l⟩ (.slice a m.l.length c))
      have S7 := below_setRow S4 (show w.heap.size ≤ w.heap.size + 1 + 1 + 1 by omega) (msgA ⟨m.k, fun i => if i = k then numV 1 (fN x) else m.n i, m.s, m.l⟩ (.slice a m.l.length c))
      have H5 := Lib.hid S5
      have H7 := Lib.hid S7
      clear S1 S2 S4 S5 S7
      go_wp2_with fail
      refine bodyPost_ret (results_ct rfl _ _ ⟨w.heap.size + 1 + 1 + 1, 0, none⟩ _ _ rfl rfl (loadVar_msg _ _ _ _ H5.out)) rfl ?_
      refine ⟨.slice a m.l.length c, by rw [HS.out]; rfl, .inl ⟨rfl, by rw [HS.out]⟩, H7.out⟩
    by_cases c4 : t = 4
    · have hv : numV t (fN x) = min (fN x) 1 := by unfold numV; rw [if_neg c1, if_pos c4]
      subst c4
      clear p1 p2 p3 h1 h6 c1
      by_cases cz : fN x = 0
      · have HV := Lib.hid (show ((numV 4 (fN x) : Nat) : Int) = 0 by rw [hv]; omega)
        have q1 : decide ((fN x : Int) > 0) = false := decide_eq_false (by omega)
        have q2 : decide (0 < fN x) = false := decide_eq_false (by omega)
        clear cz hv
        go_upto_region 33 with (fail)
        have S1 : Blk (W0.setCell ⟨w.heap.size, 1 + k, none⟩ (.int .u64 0)) w.heap.size 29 (msgA ⟨m.k, fun i => if i = k then numV 4 (fN x) else m.n i, m.s, m.l⟩ (.slice a m.l.length c)) := by
                    have h := K0.out.set (1 + k) (.int .u64 0)
                    rw [show (.int .u64 0 : Value) = .int .u64 (numV 4 (fN x) : Nat) from by rw [HV.out], msgA_setN _ _ _ _ hk] at h
                    rw [show (.int .u64 0 : Value) = .int .u64 (numV 4 (fN x) : Nat) from by rw [HV.out]]
                    exact h
        have S2 : Blk (W0.setCell ⟨w.heap.size, 1 + k, none⟩ (.int .u64 0)) (w.heap.size + 1 + 1 + 1) 29 (msgA mZ (.slice none 0 0)) := K3.out.other ⟨w.heap.size, 1 + k, none⟩ _ (by simp; omega)
        have S4 : Grew w (W0.setCell ⟨w.heap.size, 1 + k, none⟩ (.int .u64 0)) := grew_set G0.out (Nat.le_refl _) _
        refine wp_region_lit ?_
        refine wpList_load_row rfl 29 _ rfl w.heap.size rfl 29 _ (0, 0) _ S1 Tryz.underlying29 rfl (by kernel_rfl) ?_
        refine wpList_store_row rfl 29 _ _ rfl (w.heap.size + 1 + 1 + 1) _ rfl rfl 29 _ S2 (by kernel_rfl) rfl (msgA_one _ _ _ _) ?_
        have S5 := S2.row (msgA ⟨m.k, fun i => if i = k then numV 4 (fN x) else m.n i, m.s, m.l⟩ (.slice a m.l.length c))
        have S7 := below_setRow S4 (show w.heap.size ≤ w.heap.size + 1 + 1 + 1 by omega) (msgA ⟨m.k, fun i => if i = k then numV 4 (fN x) else m.n i, m.s, m.l⟩ (.slice a m.l.length c))
        have H5 := Lib.hid S5
        have H7 := Lib.hid S7
        clear S1 S2 S4 S5 S7
        go_wp2_with fail
        refine bodyPost_ret (results_ct rfl _ _ ⟨w.heap.size + 1 + 1 + 1, 0, none⟩ _ _ rfl rfl (loadVar_msg _ _ _ _ H5.out)) rfl ?_
        refine ⟨.slice a m.l.length c, by rw [HS.out]; rfl, .inl ⟨rfl, by rw [HS.out]⟩, H7.out⟩
      · have HV := Lib.hid (show numV 4 (fN x) = 1 by rw [hv]; omega)
        have q1 : decide ((fN x : Int) > 0) = true := decide_eq_true (by omega)
        have q2 : decide (0 < fN x) = true := decide_eq_true (by omega)
        clear cz hv
        go_upto_region 33 with (fail)
        have S1 : Blk ((W0.setCell ⟨w.heap.size, 1 + k, none⟩ (.int .u64 0)).setCell ⟨w.heap.size, 1 + k, none⟩ (.int .u64 1)) w.heap.size 29 (msgA ⟨m.k, fun i => if i = k then numV 4 (fN x) else m.n i, m.s, m.l⟩ (.slice a m.l.length c)) := by
                    have h := (K0.out.set (1 + k) (.int .u64 0)).set (1 + k) (.int .u64 1)
                    rw [show ((msgA m (.slice a m.l.length c)).setIfInBounds (1 + k) (.int .u64 0)) = (msgA ⟨m.k, fun i => if i = k then 0 else m.n i, m.s, m.l⟩ (.slice a m.l.length c)) from msgA_setN _ _ k 0 hk, show ((msgA ⟨m.k, fun i => if i = k then 0 else m.n i, m.s, m.l⟩ (.slice a m.l.length c)).setIfInBounds (1 + k) (.int .u64 1)) = msgA ⟨m.k, fun i => if i = k then 1 else (if i = k then 0 else m.n i), m.s, m.l⟩ (.slice a m.l.length c) from msgA_setN _ _ k 1 hk] at h
                    rw [HV.out]
                    have e : (fun i => if i = k then (1 : Nat) else (if i = k then 0 else m.n i)) = fun i => if i = k then 1 else m.n i := by funext i; split <;> rfl
                    simp only [e] at h
                    exact h
        have S2 : Blk ((W0.setCell ⟨w.heap.size, 1 + k, none⟩ (.int .u64 0)).setCell ⟨w.heap.size, 1 + k, none⟩ (.int .u64 1)) (w.heap.size + 1 + 1 + 1) 29 (msgA mZ (.slice none 0 0)) := (K3.out.other ⟨w.heap.size, 1 + k, none⟩ _ (by simp; omega)).other ⟨w.heap.size, 1 + k, none⟩ _ (by simp; omega)
        have S4 : Grew w ((W0.setCell ⟨w.heap.size, 1 + k, none⟩ (.int .u64 0)).setCell ⟨w.heap.size, 1 + k, none⟩ (.int .u64 1)) := grew_set (grew_set G0.out (Nat.le_refl _) _) (Nat.le_refl _) _
        refine wp_region_lit ?_
        refine wpList_load_row rfl 29 _ rfl w.heap.size rfl 29 _ (0, 0) _ S1 Tryz.underlying29 rfl (by kernel_rfl) ?_
        refine wpList_store_row rfl 29 _ _ rfl (w.heap.size + 1 + 1 + 1) _ rfl rfl 29 _ S2 (by kernel_rfl) rfl (msgA_one _ _ _ _) ?_
        have S5 := S2.row (msgA ⟨m.k, fun i => if i = k then numV 4 (fN x) else m.n i, m.s, m.l⟩ (.slice a m.l.length c))
        have S7 := below_setRow S4 (show w.heap.size ≤ w.heap.size + 1 + 1 + 1 by omega) (msgA ⟨m.k, fun i => if i = k then numV 4 (fN x) else m.n i, m.s, m.l⟩ (.slice a m.l.length c))
        have H5 := Lib.hid S5
        have H7 := Lib.hid S7
        clear S1 S2 S4 S5 S7
        go_wp2_with fail
        refine bodyPost_ret (results_ct rfl _ _ ⟨w.heap.size + 1 + 1 + 1, 0, none⟩ _ _ rfl rfl (loadVar_msg _ _ _ _ H5.out)) rfl ?_
        refine ⟨.slice a m.l.length c, by rw [HS.out]; rfl, .inl ⟨rfl, by rw [HS.out]⟩, H7.out⟩
    by_cases c3 : t = 3
    · have hv : numV t (fN x) = zagN (fN x) := by unfold numV; rw [if_neg c1, if_neg c4, if_pos c3]
      subst c3
      clear p1 p2 p3 h1 h6 c1 c4
      by_cases cz : fN x % 2 = 0
      · have HV := Lib.hid (show ((numV 3 (fN x) : Nat) : Int) = IntKind.u64.wrap ((fN x : Int) / 2) by rw [hv, IntKind.wrap_u64]; unfold zagN; rw [if_pos cz]; have := HN.out; omega)
        have q1 : ((fN x : Int) % 2 == 0) = true := by rw [beq_iff_eq]; omega
        clear cz hv
        go_upto_region 33 with (fail)
        have S1 : Blk (W0.setCell ⟨w.heap.size, 1 + k, none⟩ (.int .u64 (IntKind.u64.wrap ((fN x : Int) / 2)))) w.heap.size 29 (msgA ⟨m.k, fun i => if i = k then numV 3 (fN x) else m.n i, m.s, m.l⟩ (.slice a m.l.length c)) := by
                    have h := K0.out.set (1 + k) (.int .u64 (IntKind.u64.wrap ((fN x : Int) / 2)))
                    rw [show (.int .u64 (IntKind.u64.wrap ((fN x : Int) / 2)) : Value) = .int .u64 (numV 3 (fN x) : Nat) from by rw [HV.out], msgA_setN _ _ _ _ hk] at h
                    rw [show (.int .u64 (IntKind.u64.wrap ((fN x : Int) / 2)) : Value) = .int .u64 (numV 3 (fN x) : Nat) from by rw [HV.out]]
                    exact h
        have S2 : Blk (W0.setCell ⟨w.heap.size, 1 + k, none⟩ (.int .u64 (IntKind.u64.wrap ((fN x : Int) / 2)))) (w.heap.size + 1 + 1 + 1) 29 (msgA mZ (.slice none 0 0)) := K3.out.other ⟨w.heap.size, 1 + k, none⟩ _ (by simp; omega)
        have S4 : Grew w (W0.setCell ⟨w.heap.size, 1 + k, none⟩ (.int .u64 (IntKind.u64.wrap ((fN x : Int) / 2)))) := grew_set G0.out (Nat.le_refl _) _
        refine wp_region_lit ?_
        refine wpList_load_row rfl 29 _ rfl w.heap.size rfl 29 _ (0, 0) _ S1 Tryz.underlying29 rfl (by kernel_rfl) ?_
        refine wpList_store_row rfl 29 _ _ rfl (w.heap.size + 1 + 1 + 1) _ rfl rfl 29 _ S2 (by kernel_rfl) rfl (msgA_one _ _ _ _) ?_
        have S5 := S2.row (msgA ⟨m.k, fun i => if i = k then numV 3 (fN x) else m.n i, m.s, m.l⟩ (.slice a m.l.length c))
        have S7 := below_setRow S4 (show w.heap.size ≤ w.heap.size + 1 + 1 + 1 by omega) (msgA ⟨m.k, fun i => if i = k then numV 3 (fN x) else m.n i, m.s, m.l⟩ (.slice a m.l.length c))
        have H5 := Lib.hid S5
        have H7 := Lib.hid S7
        clear S1 S2 S4 S5 S7
        go_wp2_with fail
        refine bodyPost_ret (results_ct rfl _ _ ⟨w.heap.size + 1 + 1 + 1, 0, none⟩ _ _ rfl rfl (loadVar_msg _ _ _ _ H5.out)) rfl ?_
        refine ⟨.slice a m.l.length c, by rw [HS.out]; rfl, .inl ⟨rfl, by rw [HS.out]⟩, H7.out⟩
      · have HV := Lib.hid (show ((numV 3 (fN x) : Nat) : Int) = IntKind.u64.wrap (IntKind.u64.wrap (-IntKind.u64.wrap ((fN x : Int) / 2)) - 1) by rw [hv, IntKind.wrap_u64, IntKind.wrap_u64, IntKind.wrap_u64]; unfold zagN; rw [if_neg cz]; have := HN.out; omega)
        have q1 : ((fN x : Int) % 2 == 0) = false := by rw [beq_eq_false_iff_ne]; omega
        clear cz hv
        go_upto_region 33 with (fail)
        have S1 : Blk (W0.setCell ⟨w.heap.size, 1 + k, none⟩ (.int .u64 (IntKind.u64.wrap (IntKind.u64.wrap (-IntKind.u64.wrap ((fN x : Int) / 2)) - 1)))) w.heap.size 29 (msgA ⟨m.k, fun i => if i = k then numV 3 (fN x) else m.n i, m.s, m.l⟩ (.slice a m.l.length c)) := by
                    have h := K0.out.set (1 + k) (.int .u64 (IntKind.u64.wrap (IntKind.u64.wrap (-IntKind.u64.wrap ((fN x : Int) / 2)) - 1)))
                    rw [show (.int .u64 (IntKind.u64.wrap (IntKind.u64.wrap (-IntKind.u64.wrap ((fN x : Int) / 2)) - 1)) : Value) = .int .u64 (numV 3 (fN x) : Nat) from by rw [HV.out], msgA_setN _ _ _ _ hk] at h
                    rw [show (.int .u64 (IntKind.u64.wrap (IntKind.u64.wrap (-IntKind.u64.wrap ((fN x : Int) / 2)) - 1)) : Value) = .int .u64 (numV 3 (fN x) : Nat) from by rw [HV.out]]
                    exact h
        have S2 : Blk (W0.setCell ⟨w.heap.size, 1 + k, none⟩ (.int .u64 (IntKind.u64.wrap (IntKind.u64.wrap (-IntKind.u64.wrap ((fN x : Int) / 2)) - 1)))) (w.heap.size + 1 + 1 + 1) 29 (msgA mZ (.slice none 0 0)) := K3.out.other ⟨w.heap.size, 1 + k, none⟩ _ (by simp; omega)
        have S4 : Grew w (W0.setCell ⟨w.heap.size, 1 + k, none⟩ (.int .u64 (IntKind.u64.wrap (IntKind.u64.wrap (-IntKind.u64.wrap ((fN x : Int) / 2)) - 1)))) := grew_set G0.out (Nat.le_refl _) _
        refine wp_region_lit ?_
        refine wpList_load_row rfl 29 _ rfl w.heap.size rfl 29 _ (0, 0) _ S1 Tryz.underlying29 rfl (by kernel_rfl) ?_
        refine wpList_store_row rfl 29 _ _ rfl (w.heap.size + 1 + 1 + 1) _ rfl rfl 29 _ S2 (by kernel_rfl) rfl (msgA_one _ _ _ _) ?_
        have S5 := S2.row (msgA ⟨m.k, fun i => if i = k then numV 3 (fN x) else m.n i, m.s, m.l⟩ (.slice a m.l.length c))
        have S7 := below_setRow S4 (show w.heap.size ≤ w.heap.size + 1 + 1 + 1 by omega) (msgA ⟨m.k, fun i => if i = k then numV 3 (fN x) else m.n i, m.s, m.l⟩ (.slice a m.l.length c))
        have H5 := Lib.hid S5
        have H7 := Lib.hid S7
        clear S1 S2 S4 S5 S7
        go_wp2_with fail
        refine bodyPost_ret (results_ct rfl _ _ ⟨w.heap.size + 1 + 1 + 1, 0, none⟩ _ _ rfl rfl (loadVar_msg _ _ _ _ H5.out)) rfl ?_
        refine ⟨.slice a m.l.length c, by rw [HS.out]; rfl, .inl ⟨rfl, by rw [HS.out]⟩, H7.out⟩
    · have HV := Lib.hid (show ((numV t (fN x) : Nat) : Int) = (fN x : Int) by unfold numV; rw [if_neg c1, if_neg c4, if_neg c3])
      have q1 : (t == 1) = false := by simpa using c1
      have q4 : (t == 4) = false := by simpa using c4
      have q3 : (t == 3) = false := by simpa using c3
      clear c1 c3 c4
      go_upto_region 33 with (fail)
      have S1 : Blk (W0.setCell ⟨w.heap.size, 1 + k, none⟩ (.int .u64 (fN x : Int))) w.heap.size 29 (msgA ⟨m.k, fun i => if i = k then numV t (fN x) else m.n i, m.s, m.l⟩ (.slice a m.l.length c)) := by
                have h := K0.out.set (1 + k) (.int .u64 (fN x : Int))
                rw [show (.int .u64 (fN x : Int) : Value) = .int .u64 (numV t (fN x) : Nat) from by rw [HV.out], msgA_setN _ _ _ _ hk] at h
                rw [show (.int .u64 (fN x : Int) : Value) = .int .u64 (numV t (fN x) : Nat) from by rw [HV.out]]
                exact h
      have S2 : Blk (W0.setCell ⟨w.heap.size, 1 + k, none⟩ (.int .u64 (fN x : Int))) (w.heap.size + 1 + 1 + 1) 29 (msgA mZ (.slice none 0 0)) := K3.out.other ⟨w.heap.size, 1 + k, none⟩ _ (by simp; omega)
      have S4 : Grew w (W0.setCell ⟨w.heap.size, 1 + k, none⟩ (.int .u64 (fN x : Int))) := grew_set G0.out (Nat.le_refl _) _
      refine wp_region_lit ?_
      refine wpList_load_row rfl 29 _ rfl w.heap.size rfl 29 _ (0, 0) _ S1 Tryz.underlying29 rfl (by kernel_rfl) ?_
      refine wpList_store_row rfl 29 _ _ rfl (w.heap.size + 1 + 1 + 1) _ rfl rfl 29 _ S2 (by kernel_rfl) rfl (msgA_one _ _ _ _) ?_
      have S5 := S2.row (msgA ⟨m.k, fun i => if i = k then numV t (fN x) else m.n i, m.s, m.l⟩ (.slice a m.l.length c))
      have S7 := below_setRow S4 (show w.heap.size ≤ w.heap.size + 1 + 1 + 1 by omega) (msgA ⟨m.k, fun i => if i = k then numV t (fN x) else m.n i, m.s, m.l⟩ (.slice a m.l.length c))
      have H5 := Lib.hid S5
      have H7 := Lib.hid S7
      clear S1 S2 S4 S5 S7
      go_wp2_with fail
      refine bodyPost_ret (results_ct rfl _ _ ⟨w.heap.size + 1 + 1 + 1, 0, none⟩ _ _ rfl rfl (loadVar_msg _ _ _ _ H5.out)) rfl ?_
      refine ⟨.slice a m.l.length c, by rw [HS.out]; rfl, .inl ⟨rfl, by rw [HS.out]⟩, H7.out⟩
  by_cases htx : (7 ≤ t ∧ t ≤ 9) ∧ 0 ≤ sl ∧ sl < 2
  · obtain ⟨⟨h7, h9⟩, h0, h2⟩ := htx
    have htb := txtB_iff.2 ⟨h7, h9⟩
    obtain ⟨k, rfl⟩ := Int.eq_ofNat_of_zero_le h0
    have hk : k < 2 := by omega
    have p1 : decide (t ≥ 1) = true := decide_eq_true (by omega)
    have p2 : decide (t ≤ 6) = false := decide_eq_false (by omega)
    have p3 : decide (t ≥ 7) = true := decide_eq_true (by omega)
    have p4 : decide (t ≤ 9) = true := decide_eq_true (by omega)
    have KM := Lib.hid (fun W => rmost_any t W)
    have KU := Lib.hid (fun W => rcheck_any (bS (fB x)) (mostV t) (by rw [bS_size]; omega) W)
    obtain ⟨E, hE⟩ : ∃ E, E = chkV (bS (fB x)) (mostV t) := ⟨_, rfl⟩
    rw [← hE] at KU
    have HE := Lib.hid hE
    have HT := Lib.hid htb
    have H10 := Lib.hid (show ¬ t = 10 by omega)
    clear hE htb h7 h9 h0 hnu
    go_upto_region 17 with (fail)
    refine wp_region_grew W0 (Below.refl _ _) (by kernel_rfl) (by kernel_rfl) ?_
    repeat (
      refine BigFrame.wpQuiet_want (by kernel_rfl) (fun K hK => ?_)
      apply Exists.intro
      apply And.intro
      · intro W hW
        have s1 := (K1.out.grew hW.out).cell 1
        simp only [List.getElem?_toArray, List.getElem?_cons_zero, List.getElem?_cons_succ] at s1
        obtain ⟨y0, y1, y2, y3, y4, -⟩ := cells5 (K2.out.grew hW.out)
        have CV := conv_bs (fB x) _ W (HB0.out.grew hW.out)
        go_simp
        first
          | done
          | with_reducible rfl
          | with_reducible exact q_calls hW (KM.out W) (fun _ _ h => ⟨h.1, h.2 ▸ Below.refl _ _⟩)
          | exact q_calls hW (KU.out W) (fun _ _ h => ⟨h.1, h.2 ▸ Below.refl _ _⟩)
      refine hK _ ?_
      clear hK K
      simp only [Act.put, List.setIfInBounds_toArray, List.set_cons_zero, List.set_cons_succ])
    refine wpQuiet_nil ?_
    intro w4 g4
    have K4m := Lib.hid (K0.out.grew g4.out)
    have K43 := Lib.hid (K3.out.grew g4.out)
    have K42 := Lib.hid (K2.out.grew g4.out)
    have K41 := Lib.hid (K1.out.grew g4.out)
    have HB4 := Lib.hid (HB0.out.grew g4.out)
    have G4 := Lib.hid (G0.out.trans g4.out)
    clear s1 s2 y0 y1 y2 y3 y4 g4
    obtain ⟨o0, o1, o2, o3, o4, o5, o6, o7, o8, o9⟩ := mcells (show Blk w4 (w.heap.size + 1 + 1 + 1) 29 (msgA mZ (.slice none 0 0)) from K43.out)
    have fz := fun j => K43.out.frozen j
    have f0 := fz 0
    have f1 := fz 1
    have f2 := fz 2
    have f3 := fz 3
    have f4 := fz 4
    have f5 := fz 5
    have f6 := fz 6
    have f7 := fz 7
    have f8 := fz 8
    have f9 := fz 9
    clear fz
    by_cases he : E ≠ 0
    · have qe : ((E : Int) != 0) = true := by simp; omega
      have HS := Lib.hid (show setM m t (k : Int) x = (mZ, E) by unfold setM; rw [if_neg H10.out, if_pos ⟨HT.out, by omega, h2⟩, if_pos (by rw [← HE.out]; exact he), ← HE.out])
      clear he
      go_wp2
      refine bodyPost_ret (results_ct rfl _ _ ⟨w.heap.size + 1 + 1 + 1, 0, none⟩ _ _ rfl rfl (loadVar_msg _ _ mZ (.slice none 0 0) (chain_blk (m0 := mZ) (lv0 := .slice none 0 0) K43.out mZ (.slice none 0 0)))) rfl ?_
      refine ⟨.slice none 0 0, by rw [HS.out]; rfl, .inr (by rw [HS.out]; exact ownT_none _ _), chain_below (m := mZ) (lv := .slice none 0 0) G4.out (by omega)⟩
    · have qe : ((E : Int) != 0) = false := by simp; omega
      have HS := Lib.hid (show setM m t (k : Int) x = (⟨m.k, m.n, fun i => if i = k then bS (fB x) else m.s i, m.l⟩, 0) by unfold setM; rw [if_neg H10.out, if_pos ⟨HT.out, by omega, h2⟩, if_neg (by rw [← HE.out]; exact he), Int.toNat_natCast])
      have cS := K4m.out.cell (7 + k)
      rw [msgA_getS _ _ _ hk] at cS
      have zS := K4m.out.frozen (7 + k)
      have s2 := K41.out.cell 2
      simp only [List.getElem?_toArray, List.getElem?_cons_zero, List.getElem?_cons_succ] at s2
      obtain ⟨y0, y1, y2, y3, y4, -⟩ := cells5 K42.out
      have CV := conv_bs (fB x) _ w4 HB4.out
      clear he
      go_upto_region 33 with (fail)
      have S1 : Blk (w4.setCell ⟨w.heap.size, 7 + k, none⟩ (.string (bS (fB x)))) w.heap.size 29 (msgA ⟨m.k, m.n, fun i => if i = k then bS (fB x) else m.s i, m.l⟩ (.slice a m.l.length c)) := by
                have h := K4m.out.set (7 + k) (.string (bS (fB x)))
                rw [msgA_setS _ _ _ _ hk] at h
                exact h
      have S2 : Blk (w4.setCell ⟨w.heap.size, 7 + k, none⟩ (.string (bS (fB x)))) (w.heap.size + 1 + 1 + 1) 29 (msgA mZ (.slice none 0 0)) := K43.out.other ⟨w.heap.size, 7 + k, none⟩ _ (by simp; omega)
      have S4 : Grew w (w4.setCell ⟨w.heap.size, 7 + k, none⟩ (.string (bS (fB x)))) := grew_set G4.out (Nat.le_refl _) _
      refine wp_region_lit ?_
      refine wpList_load_row rfl 29 _ rfl w.heap.size rfl 29 _ (0, 0) _ S1 Tryz.underlying29 rfl (by kernel_rfl) ?_
      refine wpList_store_row rfl 29 _ _ rfl (w.heap.size + 1 + 1 + 1) _ rfl rfl 29 _ S2 (by kernel_rfl) rfl (msgA_one _ _ _ _) ?_
      have S5 := S2.row (msgA ⟨m.k, m.n, fun i => if i = k then bS (fB x) else m.s i, m.l⟩ (.slice a m.l.length c))
      have S7 := below_setRow S4 (show w.heap.size ≤ w.heap.size + 1 + 1 + 1 by omega) (msgA ⟨m.k, m.n, fun i => if i = k then bS (fB x) else m.s i, m.l⟩ (.slice a m.l.length c))
      have H5 := Lib.hid S5
      have H7 := Lib.hid S7
      clear S1 S2 S4 S5 S7
      go_wp2_with fail
      refine bodyPost_ret (results_ct rfl _ _ ⟨w.heap.size + 1 + 1 + 1, 0, none⟩ _ _ rfl rfl (loadVar_msg _ _ _ _ H5.out)) rfl ?_
      refine ⟨.slice a m.l.length c, by rw [HS.out]; rfl, .inl ⟨rfl, by rw [HS.out]⟩, H7.out⟩
  by_cases h10 : t = 10
  · subst h10
    clear hnu htx
    obtain ⟨c0, c1, c2, c3, c4, c5, c6, c7, c8, c9⟩ := mcells K0.out
    obtain ⟨o0, o1, o2, o3, o4, o5, o6, o7, o8, o9⟩ := mcells (show Blk W0 (w.heap.size + 1 + 1 + 1) 29 (msgA mZ (.slice none 0 0)) from K3.out)
    have fz := fun j => (K3.out).frozen j
    have f0 := fz 0
    have f1 := fz 1
    have f2 := fz 2
    have f3 := fz 3
    have f4 := fz 4
    have f5 := fz 5
    have f6 := fz 6
    have f7 := fz 7
    have f8 := fz 8
    have f9 := fz 9
    clear fz
    by_cases h64 : 64 ≤ m.l.length
    · have q1 : decide ((m.l.length : Int) ≥ 64) = true := decide_eq_true (by omega)
      have HS := Lib.hid (show setM m 10 sl x = (mZ, 2) by unfold setM; rw [if_pos rfl, if_pos h64])
      clear h64
      go_wp2
      refine bodyPost_ret (results_ct rfl _ _ ⟨w.heap.size + 1 + 1 + 1, 0, none⟩ _ _ rfl rfl (loadVar_msg _ _ mZ (.slice none 0 0) (chain_blk (m0 := mZ) (lv0 := .slice none 0 0) K3.out mZ (.slice none 0 0)))) rfl ?_
      refine ⟨.slice none 0 0, by rw [HS.out]; rfl, .inr (by rw [HS.out]; exact ownT_none _ _), chain_below (m := mZ) (lv := .slice none 0 0) G0.out (by omega)⟩
    · have q1 : decide ((m.l.length : Int) ≥ 64) = false := decide_eq_false (by omega)
      have CV := conv_bs (fB x) _ W0 HB0.out
      have KU := Lib.hid (rcheck_any (bS (fB x)) 64 (by rw [bS_size]; omega) W0)
      obtain ⟨E, hE⟩ : ∃ E, E = chkV (bS (fB x)) 64 := ⟨_, rfl⟩
      rw [← hE] at KU
      have HE := Lib.hid hE
      have H64 := Lib.hid h64
      have hl64 : m.l.length ≤ 64 := by omega
      clear h64 hE
      go_wp2_with fail
      refine KU.out.mono ?_
      rintro e w4 ⟨rfl, g4⟩
      subst g4
      by_cases he : E ≠ 0
      · have qe : ((E : Int) != 0) = true := by simp; omega
        have HS := Lib.hid (show setM m 10 sl x = (mZ, E) by unfold setM; rw [if_pos rfl, if_neg H64.out, if_pos (by rw [← HE.out]; exact he), ← HE.out])
        clear he
        go_wp2
        refine bodyPost_ret (results_ct rfl _ _ ⟨w.heap.size + 1 + 1 + 1, 0, none⟩ _ _ rfl rfl (loadVar_msg _ _ mZ (.slice none 0 0) (chain_blk (m0 := mZ) (lv0 := .slice none 0 0) K3.out mZ (.slice none 0 0)))) rfl ?_
        refine ⟨.slice none 0 0, by rw [HS.out]; rfl, .inr (by rw [HS.out]; exact ownT_none _ _), chain_below (m := mZ) (lv := .slice none 0 0) G0.out (by omega)⟩
      · have qe : ((E : Int) != 0) = false := by simp; omega
        have HS := Lib.hid (show setM m 10 sl x = (⟨m.k, m.n, m.s, m.l ++ [bS (fB x)]⟩, 0) by unfold setM; rw [if_pos rfl, if_neg H64.out, if_neg (by rw [← HE.out]; exact he)])
        have hw0 : w.heap.size + 4 ≤ W0.heap.size := K3.out.lt
        obtain ⟨aa, ca, ee, -, -, -, hc⟩ := HL.out.open
        cases ee
        have HC := Lib.hid (fun h : 0 < m.l.length => hc (by simpa using h))
        clear he hc KU
        clear c0 c1 c2 c3 c4 c5 c6 c7 c8 c9 s1 s2 y0 y1 y2 y3 y4 o0 o1 o2 o3 o4 o5 o6 o7 o8 o9 f0 f1 f2 f3 f4 f5 f6 f7 f8 f9
        go_wp2
        go_loopw [12, 13] (fun vo i wr => ∃ k : Nat, k ≤ m.l.length ∧ i = .int .i64 k ∧ OwnT wr (w.heap.size + 4) vo (m.l.take k) ∧ Below (w.heap.size + 4) W0 wr) (fun _ i _ => m.l.length - (intOf i).toNat)
        case atStart => exact ⟨0, Nat.zero_le _, rfl, ownT_none _ _, Below.refl _ _⟩
        case round =>
          obtain ⟨k, hk, rfl, ho, hB⟩ := hrel
          have K0r := Lib.hid (K0.out.below hB (by omega))
          have K2r := Lib.hid (K2.out.below hB (by omega))
          have K3r := Lib.hid (K3.out.below hB (by omega))
          have Gr := Lib.hid (show Grew w wr from Below.trans G0.out (hB.mono (by omega)))
          have hsz : w.heap.size + 4 ≤ wr.heap.size := by have := K3r.out.lt; omega
          obtain ⟨ao, no, co, rfl, hno⟩ : ∃ a n c, u12 = .slice a n c ∧ RowKit.Hid (n = k) := by
            obtain ⟨a, c, e⟩ := tx_len (Sl.of_own ho)
            exact ⟨a, _, c, e, Lib.hid (by rw [List.length_take]; omega)⟩
          have HO := Lib.hid ho
          have HBB := Lib.hid hB
          clear ho hB
          obtain ⟨c0, c1, c2, c3, c4, c5, c6, c7, c8, c9⟩ := mcells K0r.out
          by_cases hlt : k < m.l.length
          · obtain ⟨b, o, rfl, hcl⟩ := HC.out (by omega)
            have x0 := (below_ext Gr.out) _ _ (hcl k _ (tx_get m.l k hlt))
            have hts : m.l.take (k + 1) = m.l.take k ++ [m.l[k]] := List.take_succ_eq_append_getElem hlt
            generalize m.l[k] = S at x0 hts
            have HTS := Lib.hid hts
            have hi1 : (k : Int) < (m.l.length : Int) := by omega
            have hi0 : (0 : Int) ≤ (k : Int) := by omega
            have HSL := Lib.hid (tx_lit wr S)
            have g5 := grew_alloc wr (.cells #[.string S] 9)
            have HO5 := Lib.hid (own_grew HO.out g5)
            have HB5 := Lib.hid (Below.trans HBB.out (g5.mono hsz))
            have hsz5 : w.heap.size + 4 ≤ (wr.alloc (.cells #[.string S] 9)).heap.size := by simp; omega
            have hkt : (m.l.take k).length + 1 ≤ 1000000000 := by rw [List.length_take]; omega
            clear hts hcl g5
            go_wp2_with (at_builtin; refine wpList_pushTx rfl _ _ rfl (w.heap.size + 4) _ (m.l.take k) rfl HO5.out _ rfl S HSL.out hkt hsz5 ?_; intro v' w6 hown6 hB6 hgb)
            refine ⟨⟨k + 1, by omega, by go_num, by rw [HTS.out]; exact hown6, Below.trans HB5.out hB6⟩, ?_⟩
            simp [intOf]; omega
          · obtain rfl : k = m.l.length := by omega
            have hto : m.l.take m.l.length = m.l := List.take_length
            have HO2 := Lib.hid (show OwnT wr (w.heap.size + 4) (.slice ao no co) m.l by have := HO.out; rw [hto] at this; exact this)
            obtain ⟨y0, y1, y2, y3, y4, -⟩ := cells5 K2r.out
            have CV := conv_bs (fB x) _ wr (HBw.out.grew Gr.out)
            have g5 := grew_alloc wr (.cells #[str (fB x)] 9)
            have HSL := Lib.hid (tx_lit wr (bS (fB x)))
            have HO5 := Lib.hid (own_grew HO2.out g5)
            have K5m := Lib.hid (K0r.out.grew g5)
            have K53 := Lib.hid (K3r.out.grew g5)
            have G5 := Lib.hid (Gr.out.trans g5)
            have hsz5 : w.heap.size + 4 ≤ (wr.alloc (.cells #[str (fB x)] 9)).heap.size := by simp; omega
            clear g5 hto HO
            go_wp2_with (at_builtin; refine wpList_pushTx rfl _ _ rfl (w.heap.size + 4) _ m.l rfl HO5.out _ rfl (bS (fB x)) HSL.out (by omega) hsz5 ?_; intro v' w6 hown6 hB6 hgb; obtain ⟨a6, c6', e6⟩ : ∃ a c, v' = .slice a (m.l.length + 1) c := (by obtain ⟨a, c, e⟩ := tx_len (Sl.of_own hown6); exact ⟨a, c, by rw [e]; simp⟩); subst e6; have K6m := K5m.out.kept hgb (fun e => by have := (own_lt HO5.out _ e.symm).1; omega); have K63 := K53.out.kept hgb (fun e => by have := (own_lt HO5.out _ e.symm).1; omega); have H6 := Lib.hid hown6; have G6 := Lib.hid (Below.trans G5.out (hB6.mono (by omega : w.heap.size ≤ w.heap.size + 4))); have HB6 := Lib.hid (own_lt hown6); clear hown6 hB6 hgb c0 c1 c2 c3 c4 c5 c6 c7 c8 c9; obtain ⟨c0, c1, c2, c3, c4, c5, c6, c7, c8, c9⟩ := mcells K6m; have z9 := K6m.frozen 9; obtain ⟨o0, o1, o2, o3, o4, o5, o6, o7, o8, o9⟩ := mcells (show Blk w6 (w.heap.size + 1 + 1 + 1) 29 (msgA mZ (.slice none 0 0)) from K63); have fz := fun j => (K63).frozen j; have f0 := fz 0; have f1 := fz 1; have f2 := fz 2; have f3 := fz 3; have f4 := fz 4; have f5 := fz 5; have f6 := fz 6; have f7 := fz 7; have f8 := fz 8; have f9 := fz 9; clear fz)
            refine bodyPost_ret (results_ct rfl _ _ ⟨w.heap.size + 1 + 1 + 1, 0, none⟩ _ _ rfl rfl (loadVar_msg _ _ ⟨m.k, m.n, m.s, m.l ++ [bS (fB x)]⟩ (.slice a6 (m.l.length + 1) c6') (chain_blk (m0 := mZ) (lv0 := .slice none 0 0) (K63.other ⟨w.heap.size, 9, none⟩ _ (by simp; omega)) _ _))) rfl ?_
            refine ⟨.slice a6 (m.l.length + 1) c6', by rw [HS.out]; rfl, .inr (by rw [HS.out]; exact own_mono (chain_own (own_set H6.out _ _ (fun e => by have h8 : w.heap.size + 4 ≤ w.heap.size := (HB6.out _ e).1; omega)) (fun e => by have := (HB6.out _ e).1; omega) _ _) (by omega)), chain_below (grew_set G6.out (Nat.le_refl _) _) (by omega) _ _⟩
  have HS := Lib.hid (show setM m t sl x = (mZ, 7) by
    unfold setM
    rw [if_neg h10, if_neg (fun h => by have := txtB_iff.1 h.1; omega), if_neg (fun h => by have := numB_iff.1 h.1; omega)])
  have q10 : (t == 10) = false := by simpa using h10
  obtain ⟨o0, o1, o2, o3, o4, o5, o6, o7, o8, o9⟩ := mcells (show Blk W0 (w.heap.size + 1 + 1 + 1) 29 (msgA mZ (.slice none 0 0)) from K3.out)
  have fz := fun j => (K3.out).frozen j
  have f0 := fz 0
  have f1 := fz 1
  have f2 := fz 2
  have f3 := fz 3
  have f4 := fz 4
  have f5 := fz 5
  have f6 := fz 6
  have f7 := fz 7
  have f8 := fz 8
  have f9 := fz 9
  clear fz
  rcases (show ((7 ≤ t ∧ t ≤ 9) ∧ sl < 0) ∨ ((7 ≤ t ∧ t ≤ 9) ∧ 2 ≤ sl) ∨ ((1 ≤ t ∧ t ≤ 6) ∧ sl < 0) ∨ ((1 ≤ t ∧ t ≤ 6) ∧ 6 ≤ sl) ∨ t < 1 ∨ 10 < t by omega) with ⟨⟨u1, u2⟩, u3⟩ | ⟨⟨u1, u2⟩, u3⟩ | ⟨⟨u1, u2⟩, u3⟩ | ⟨⟨u1, u2⟩, u3⟩ | u1 | u1
  · have q1 : decide (t ≥ 1) = true := decide_eq_true (by omega)
    have q2 : decide (t ≤ 6) = false := decide_eq_false (by omega)
    have q3 : decide (t ≥ 7) = true := decide_eq_true (by omega)
    have q4 : decide (t ≤ 9) = true := decide_eq_true (by omega)
    have q5 : decide (sl ≥ 0) = false := decide_eq_false (by omega)
    clear htx hnu h10
    go_wp2
    refine bodyPost_ret (results_ct rfl _ _ ⟨w.heap.size + 1 + 1 + 1, 0, none⟩ _ _ rfl rfl (loadVar_msg _ _ mZ (.slice none 0 0) (chain_blk (m0 := mZ) (lv0 := .slice none 0 0) K3.out mZ (.slice none 0 0)))) rfl ?_
    refine ⟨.slice none 0 0, by rw [HS.out]; rfl, .inr (by rw [HS.out]; exact ownT_none _ _), chain_below (m := mZ) (lv := .slice none 0 0) G0.out (by omega)⟩
  · have q1 : decide (t ≥ 1) = true := decide_eq_true (by omega)
    have q2 : decide (t ≤ 6) = false := decide_eq_false (by omega)
    have q3 : decide (t ≥ 7) = true := decide_eq_true (by omega)
    have q4 : decide (t ≤ 9) = true := decide_eq_true (by omega)
    have q5 : decide (sl ≥ 0) = true := decide_eq_true (by omega)
    have q6 : decide (sl < 2) = false := decide_eq_false (by omega)
    clear htx hnu h10
    go_wp2
    refine bodyPost_ret (results_ct rfl _ _ ⟨w.heap.size + 1 + 1 + 1, 0, none⟩ _ _ rfl rfl (loadVar_msg _ _ mZ (.slice none 0 0) (chain_blk (m0 := mZ) (lv0 := .slice none 0 0) K3.out mZ (.slice none 0 0)))) rfl ?_
    refine ⟨.slice none 0 0, by rw [HS.out]; rfl, .inr (by rw [HS.out]; exact ownT_none _ _), chain_below (m := mZ) (lv := .slice none 0 0) G0.out (by omega)⟩
  · have q1 : decide (t ≥ 1) = true := decide_eq_true (by omega)
    have q2 : decide (t ≤ 6) = true := decide_eq_true (by omega)
    have q3 : decide (t ≥ 7) = false := decide_eq_false (by omega)
    have q5 : decide (sl ≥ 0) = false := decide_eq_false (by omega)
    clear htx hnu h10
    go_wp2
    refine bodyPost_ret (results_ct rfl _ _ ⟨w.heap.size + 1 + 1 + 1, 0, none⟩ _ _ rfl rfl (loadVar_msg _ _ mZ (.slice none 0 0) (chain_blk (m0 := mZ) (lv0 := .slice none 0 0) K3.out mZ (.slice none 0 0)))) rfl ?_
    refine ⟨.slice none 0 0, by rw [HS.out]; rfl, .inr (by rw [HS.out]; exact ownT_none _ _), chain_below (m := mZ) (lv := .slice none 0 0) G0.out (by omega)⟩
  · have q1 : decide (t ≥ 1) = true := decide_eq_true (by omega)
    have q2 : decide (t ≤ 6) = true := decide_eq_true (by omega)
    have q3 : decide (t ≥ 7) = false := decide_eq_false (by omega)
    have q5 : decide (sl ≥ 0) = true := decide_eq_true (by omega)
    have q6 : decide (sl < 6) = false := decide_eq_false (by omega)
    clear htx hnu h10
    go_wp2
    refine bodyPost_ret (results_ct rfl _ _ ⟨w.heap.size + 1 + 1 + 1, 0, none⟩ _ _ rfl rfl (loadVar_msg _ _ mZ (.slice none 0 0) (chain_blk (m0 := mZ) (lv0 := .slice none 0 0) K3.out mZ (.slice none 0 0)))) rfl ?_
    refine ⟨.slice none 0 0, by rw [HS.out]; rfl, .inr (by rw [HS.out]; exact ownT_none _ _), chain_below (m := mZ) (lv := .slice none 0 0) G0.out (by omega)⟩
  · have q1 : decide (t ≥ 1) = false := decide_eq_false (by omega)
    have q3 : decide (t ≥ 7) = false := decide_eq_false (by omega)
    clear htx hnu h10
    go_wp2
    refine bodyPost_ret (results_ct rfl _ _ ⟨w.heap.size + 1 + 1 + 1, 0, none⟩ _ _ rfl rfl (loadVar_msg _ _ mZ (.slice none 0 0) (chain_blk (m0 := mZ) (lv0 := .slice none 0 0) K3.out mZ (.slice none 0 0)))) rfl ?_
    refine ⟨.slice none 0 0, by rw [HS.out]; rfl, .inr (by rw [HS.out]; exact ownT_none _ _), chain_below (m := mZ) (lv := .slice none 0 0) G0.out (by omega)⟩
  · have q1 : decide (t ≥ 1) = true := decide_eq_true (by omega)
    have q2 : decide (t ≤ 6) = false := decide_eq_false (by omega)
    have q3 : decide (t ≥ 7) = true := decide_eq_true (by omega)
    have q4 : decide (t ≤ 9) = false := decide_eq_false (by omega)
    clear htx hnu h10
    go_wp2
    refine bodyPost_ret (results_ct rfl _ _ ⟨w.heap.size + 1 + 1 + 1, 0, none⟩ _ _ rfl rfl (loadVar_msg _ _ mZ (.slice none 0 0) (chain_blk (m0 := mZ) (lv0 := .slice none 0 0) K3.out mZ (.slice none 0 0)))) rfl ?_
    refine ⟨.slice none 0 0, by rw [HS.out]; rfl, .inr (by rw [HS.out]; exact ownT_none _ _), chain_below (m := mZ) (lv := .slice none 0 0) G0.out (by omega)⟩
end Go.Proofs.YtbjoohafgkodcaaGreat
