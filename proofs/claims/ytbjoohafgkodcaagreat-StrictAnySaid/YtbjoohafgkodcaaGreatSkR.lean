/- Contract of rescriptref06.One. -/
import Derived.Test.YtbjoohafgkodcaaGreatSkF
namespace Go.Proofs.YtbjoohafgkodcaaGreat
open Go Go.RowKit Go.Shelf
attribute [local go_sem] Oper.semAt_some

set_option maxRecDepth 100000 in
set_option maxHeartbeats 4000000 in
theorem rone_v (l : List UInt8) (p at_ : Nat) (vv : Value) (hl : l.length ≤ 1000000000) (w : World) (hvv : Bs w vv l) (h : InR (· = vv) w p l at_) :
    Calls Tryz.prog 71 #[.pointer (some ⟨p, 0, none⟩)] w fun e w' => ∃ v, e = .returned (.tuple #[fldA (oneR l at_).1 v, faultV (oneR l at_).2.1 (oneR l at_).2.2.1]) ∧ OwnB w' w.heap.size v (fB (oneR l at_).1) ∧ InR (· = vv) w' p l (oneR l at_).2.2.2 ∧ Fr (· = p) w w' := by
  obtain ⟨R, hR⟩ : ∃ R, R = oneR l at_ := ⟨_, rfl⟩
  rw [← hR]
  obtain ⟨T, hT⟩ : ∃ T, T = tagR l at_ := ⟨_, rfl⟩
  have hpl := h.lt
  have hat : at_ ≤ l.length := h.choose_spec.2.2.1
  obtain ⟨w0, hw0⟩ : ∃ w0, w0 = (((w.alloc (.cells #[.int .i64 0, .int .u8 0, .int .u64 0, .slice none 0 0, .int .i64 0] 101)).alloc (.cells #[.int .i64 0, .int .i64 0] 32)).alloc (.cells #[.int .i64 0, .int .u8 0, .int .u64 0, .slice none 0 0, .int .i64 at_] 101)) := ⟨_, rfl⟩
  have gw0 : Grew w w0 := by rw [hw0]; exact (((Below.refl _ _).alloc (Nat.le_refl _) _).alloc (by simp) _).alloc (by simp; omega) _
  have hz0 : w0.heap.size = w.heap.size + 1 + 1 + 1 := by rw [hw0]; simp
  have k0 : Blk w0 w.heap.size 101 #[.int .i64 0, .int .u8 0, .int .u64 0, .slice none 0 0, .int .i64 0] := by rw [hw0]; exact ((Blk.new _ _ _).alloc _).alloc _
  have k1 : Blk w0 (w.heap.size + 1) 32 #[.int .i64 0, .int .i64 0] := by rw [hw0]; exact (Blk.at (by simp)).alloc _
  have k2 : Blk w0 (w.heap.size + 1 + 1) 101 #[.int .i64 0, .int .u8 0, .int .u64 0, .slice none 0 0, .int .i64 at_] := by rw [hw0]; exact Blk.at (by simp)
  have hI0 := h.grew gw0
  have H := Lib.hid h
  have HVV := Lib.hid hvv
  clear hvv
  have HR := Lib.hid hR
  clear h hR
  obtain ⟨pv, hpb, -, -⟩ := id H.out
  have hpc := (hpb.grew ((grew_alloc w (.cells #[.int .i64 0, .int .u8 0, .int .u64 0, .slice none 0 0, .int .i64 0] 101)).trans (grew_alloc _ (.cells #[.int .i64 0, .int .i64 0] 32)))).cell 1
  simp only [List.getElem?_toArray, List.getElem?_cons_zero, List.getElem?_cons_succ] at hpc
  clear hpb
  go_enter Tryz.func71, Tryz.ntmps71
  go_wp2_with fail
  rw [← hw0]
  refine (rtag_any l p at_ _ hI0).mono ?_
  rw [← hT]
  obtain ⟨tn, tw, te, tq⟩ := T
  simp only
  rintro e w1 ⟨rfl, hI1, hF1⟩
  have n0 : w.heap.size ≠ p := by omega
  have n1 : w.heap.size + 1 ≠ p := by omega
  have n2 : w.heap.size + 1 + 1 ≠ p := by omega
  have b0 := k0.fr hF1 n0
  have b1 := k1.fr hF1 n1
  have b2 := k2.fr hF1 n2
  have hz1 : w.heap.size + 1 + 1 + 1 ≤ w1.heap.size := by have := hF1.size; omega
  have HW0 := Lib.hid hw0
  have HZ0 := Lib.hid hz0
  clear k0 k1 k2 hw0 hz0 hI0
  go_upto_region 3 with (fail)
  obtain ⟨W1, hW1⟩ : ∃ W1, W1 = w1.alloc (.cells #[.int .i64 te, .int .i64 (fltAt te at_)] 32) := ⟨_, rfl⟩
  try rw [← hW1]
  have ga := grew_alloc w1 (.cells #[.int .i64 te, .int .i64 (fltAt te at_)] 32)
  rw [← hW1] at ga
  have hzw : W1.heap.size = w1.heap.size + 1 := by rw [hW1, World.size_alloc]
  have d0 := b0.grew ga
  have d1 := b1.grew ga
  have d2 := b2.grew ga
  have d3 : Blk W1 w1.heap.size 32 #[.int .i64 te, .int .i64 (fltAt te at_)] := by rw [hW1]; exact Blk.new _ _ _
  have HF1 := Lib.hid (Fr.trans (Fr.of_grew gw0) (Fr.trans hF1 (Fr.of_grew ga)))
  have hIW := Lib.hid (hI1.grew ga)
  have n3 : w1.heap.size ≠ p := by omega
  obtain ⟨B, hB⟩ : ∃ B, B = w1.heap.size := ⟨_, rfl⟩
  rw [← hB] at d3 n3 hzw hz1
  try rw [← hB]
  clear b0 b1 b2 ga hW1 hF1 hI1 hB
  obtain ⟨x0, x1, x2, x3, x4, y0, y1, y2, y3, y4⟩ := cells5 d0
  obtain ⟨u0, u1, u2, u3⟩ := cells_of d1
  obtain ⟨z0, z1, z2, z3, z4, v0, v1, v2, v3, v4⟩ := cells5 d2
  obtain ⟨q0, q1, q2, q3⟩ := cells_of d3
  by_cases he : te ≠ 0
  · have hne : ((te : Int) != 0) = true := by simp; omega
    go_wp2_with fail
    go_region
    go_wp2
    obtain ⟨W9, hW9⟩ : ∃ W9, W9 = finW W1 w.heap.size (.int .i64 0) (.int .u8 0) (.int .u64 0) (.slice none 0 0) (.int .i64 0) (.int .i64 te) (.int .i64 (fltAt te at_)) := ⟨_, rfl⟩
    have hw := finW_fr W1 w.heap.size (.int .i64 0) (.int .u8 0) (.int .u64 0) (.slice none 0 0) (.int .i64 0) (.int .i64 te) (.int .i64 (fltAt te at_))
    have hA := finW_field d0 (.int .i64 0) (.int .u8 0) (.int .u64 0) (.slice none 0 0) (.int .i64 0) (.int .i64 te) (.int .i64 (fltAt te at_))
    have hB := finW_fault d1 (.int .i64 0) (.int .u8 0) (.int .u64 0) (.slice none 0 0) (.int .i64 0) (.int .i64 te) (.int .i64 (fltAt te at_))
    rw [← hW9] at hw hA hB
    unfold finW at hW9
    rw [← hW9]
    have hI9 := InS.fresh HVV.out hIW.out hw (by omega) (fun k h => by omega)
    have hF9 := Fr.trans' HF1.out hw (fun i hi h => by omega)
    have hq : tq = at_ := by have := tagR_err l at_ (by rw [← hT]; exact he); rw [← hT] at this; exact this.1
    have hRR := HR.out.trans (oneR_err1 hT he)
    refine bodyPost_ret (results_cc rfl _ _ ⟨w.heap.size, 0, none⟩ ⟨w.heap.size + 1, 0, none⟩ _ _ rfl rfl (loadVar_field _ _ _ rfl hA.drew) (loadVar_fault _ _ _ rfl hB.drew)) rfl ?_
    rw [hRR, fltAt_ne he]
    exact ⟨_, rfl, ownB_nil _ _, by rw [← hq]; exact hI9.grew (Drew.grew ⟨1, rfl⟩), hF9.drew⟩
  obtain rfl : te = 0 := by omega
  have hto := tagR_ok l at_ hat (by rw [← hT])
  rw [← hT] at hto
  obtain ⟨-, t2, -, -, t5⟩ := hto
  have HT := Lib.hid hT
  clear hT
  go_upto_region 7 with (fail)
  obtain ⟨W2, hW2⟩ : ∃ W2, W2 = ((W1.setCell ⟨w.heap.size + 1 + 1, 0, none⟩ (.int .i64 tn)).setCell ⟨w.heap.size + 1 + 1, 1, none⟩ (.int .u8 tw)).alloc (.cells #[.int .i64 0, .int .i64 0] 32) := ⟨_, rfl⟩
  try rw [← hW2]
  have s2 : Fr (· = w.heap.size + 1 + 1) W1 W2 := by rw [hW2]; exact (fr_set2 W1 (w.heap.size + 1 + 1) (.int .i64 tn) (.int .u8 tw)).alloc _
  have c0 := d0.fr s2 (by omega)
  have c1 := d1.fr s2 (by omega)
  have c2 : Blk W2 (w.heap.size + 1 + 1) 101 #[.int .i64 tn, .int .u8 tw, .int .u64 0, .slice none 0 0, .int .i64 at_] := by rw [hW2]; exact ((d2.set 0 _).set 1 _).alloc _
  have c3 : Blk W2 (B + 1) 32 #[.int .i64 0, .int .i64 0] := by rw [hW2]; exact Blk.at (by simp [hzw])
  have hzz : W2.heap.size = B + 1 + 1 := by rw [hW2]; simp [hzw]
  have n4 : B + 1 ≠ p := by omega
  clear hzw
  have HF2 : RowKit.Hid (Fr (· = p) w W2) := Lib.hid (Fr.trans' HF1.out s2 (fun i hi h => by omega))
  have HI2 := Lib.hid (InS.fresh HVV.out hIW.out s2 (by omega) (fun k h => by omega))
  have HW2 := Lib.hid hW2
  clear hW2 s2 d0 d1 d2 d3 x0 x1 x2 x3 x4 y0 y1 y2 y3 y4 u0 u1 u2 u3 z0 z1 z2 z3 z4 v0 v1 v2 v3 v4 q0 q1 q2 q3 HF1 hIW
  rcases wireB_or t5 with rfl | rfl | rfl | rfl
  · go_wp2_with fail
    try rw [← HW2.out]
    refine (rvarint_any l p tq _ HI2.out).mono ?_
    obtain ⟨vn, hvn⟩ : ∃ x, x = (vget (l.drop tq)).1 := ⟨_, rfl⟩
    obtain ⟨ve, hve⟩ : ∃ x, x = (vget (l.drop tq)).2.2 := ⟨_, rfl⟩
    obtain ⟨vq, hvq⟩ : ∃ x, x = tq + (vget (l.drop tq)).2.1 := ⟨_, rfl⟩
    have hval : valR l tq 0 = (vn, [], ve, vq) := by rw [hvn, hve, hvq]; rfl
    rw [← hvn, ← hve, ← hvq]
    rintro e w3 ⟨rfl, hI3, hF3⟩
    clear hvn hve hvq
    have e0 := c0.fr hF3 n0
    have e1 := c1.fr hF3 n1
    have e2 := c2.fr hF3 n2
    have e3 := c3.fr hF3 n4
    have hsz := hF3.size
    have HI3 := Lib.hid hI3
    have HF := Lib.hid (Fr.trans HF2.out hF3)
    have HV := Lib.hid hval
    clear c0 c1 c2 c3 hI3 hF3 hval
    obtain ⟨x0, x1, x2, x3, x4, y0, y1, y2, y3, y4⟩ := cells5 e0
    obtain ⟨u0, u1, u2, u3⟩ := cells_of e1
    obtain ⟨z0, z1, z2, z3, z4, v0, v1, v2, v3, v4⟩ := cells5 e2
    obtain ⟨q0, q1, q2, q3⟩ := cells_of e3
    by_cases he : ve = 0
    · subst he
      go_upto_region 15 with (fail)
      obtain ⟨W4, hW4⟩ : ∃ W4, W4 = ((w3.setCell ⟨w.heap.size + 1 + 1, 2, none⟩ (.int .u64 vn)).setCell ⟨B + 1, 0, none⟩ (.int .i64 0)).setCell ⟨B + 1, 1, none⟩ (.int .i64 (fltAt 0 tq)) := ⟨_, rfl⟩
      rw [← hW4]
      have f4 : Fr (fun k => k = w.heap.size + 1 + 1 ∨ k = (B + 1)) w3 W4 := by rw [hW4]; exact (((Fr.refl (fun k => k = w.heap.size + 1 + 1 ∨ k = (B + 1)) w3).set (w.heap.size + 1 + 1) 2 _ (fun _ => .inl rfl)).set (B + 1) 0 _ (fun _ => .inr rfl)).set (B + 1) 1 _ (fun _ => .inr rfl)
      have m0 := e0.fr f4 (by omega)
      have m1 := e1.fr f4 (by omega)
      have m2 : Blk W4 (w.heap.size + 1 + 1) 101 #[.int .i64 tn, .int .u8 0, .int .u64 vn, .slice none 0 0, .int .i64 at_] := by rw [hW4]; exact ((e2.set 2 _).other ⟨B + 1, 0, none⟩ _ (by simp; omega)).other ⟨B + 1, 1, none⟩ _ (by simp; omega)
      have m3 : Blk W4 (B + 1) 32 #[.int .i64 0, .int .i64 (fltAt 0 tq)] := by rw [hW4]; exact ((e3.other ⟨w.heap.size + 1 + 1, 2, none⟩ _ (by simp; omega)).set 0 _).set 1 _
      have hI4 := InS.fresh HVV.out HI3.out f4 (by omega) (fun k h => by omega)
      have hF4 := Fr.trans' HF.out f4 (fun i hi h => by omega)
      have hsz4 := f4.size
      have HI4 := Lib.hid hI4
      have HF4 := Lib.hid hF4
      clear e0 e1 e2 e3 x0 x1 x2 x3 x4 y0 y1 y2 y3 y4 u0 u1 u2 u3 z0 z1 z2 z3 z4 v0 v1 v2 v3 v4 q0 q1 q2 q3 f4 hW4 hI4 hF4 HI3 HF
      obtain ⟨x0, x1, x2, x3, x4, y0, y1, y2, y3, y4⟩ := cells5 m0
      obtain ⟨u0, u1, u2, u3⟩ := cells_of m1
      obtain ⟨z0, z1, z2, z3, z4, v0, v1, v2, v3, v4⟩ := cells5 m2
      obtain ⟨q0, q1, q2, q3⟩ := cells_of m3
      go_wp2_with fail
      obtain ⟨W9, hW9⟩ : ∃ W9, W9 = finW W4 w.heap.size (.int .i64 tn) (.int .u8 0) (.int .u64 vn) (.slice none 0 0) (.int .i64 at_) (.int .i64 0) (.int .i64 0) := ⟨_, rfl⟩
      have hw := finW_fr W4 w.heap.size (.int .i64 tn) (.int .u8 0) (.int .u64 vn) (.slice none 0 0) (.int .i64 at_) (.int .i64 0) (.int .i64 0)
      have hA := finW_field m0 (.int .i64 tn) (.int .u8 0) (.int .u64 vn) (.slice none 0 0) (.int .i64 at_) (.int .i64 0) (.int .i64 0)
      have hB := finW_fault m1 (.int .i64 tn) (.int .u8 0) (.int .u64 vn) (.slice none 0 0) (.int .i64 at_) (.int .i64 0) (.int .i64 0)
      rw [← hW9] at hw hA hB
      unfold finW at hW9
      rw [← hW9]
      have hI9 := InS.fresh HVV.out HI4.out hw (by omega) (fun k h => by omega)
      have hF9 := Fr.trans' HF4.out hw (fun i hi h => by omega)
      have hRR := HR.out.trans (oneR_good HT.out HV.out)
      refine bodyPost_ret (results_cc rfl _ _ ⟨w.heap.size, 0, none⟩ ⟨w.heap.size + 1, 0, none⟩ _ _ rfl rfl (loadVar_field _ _ _ rfl hA) (loadVar_fault _ _ _ rfl hB)) rfl ?_
      rw [hRR]
      exact ⟨_, rfl, ownB_nil _ _, hI9, hF9⟩
    · have hne : ((ve : Int) != 0) = true := by simp; omega
      have HE := Lib.hid he
      clear he
      go_upto_region 15 with (fail)
      obtain ⟨W4, hW4⟩ : ∃ W4, W4 = ((w3.setCell ⟨w.heap.size + 1 + 1, 2, none⟩ (.int .u64 vn)).setCell ⟨B + 1, 0, none⟩ (.int .i64 ve)).setCell ⟨B + 1, 1, none⟩ (.int .i64 (fltAt ve tq)) := ⟨_, rfl⟩
      rw [← hW4]
      have f4 : Fr (fun k => k = w.heap.size + 1 + 1 ∨ k = (B + 1)) w3 W4 := by rw [hW4]; exact (((Fr.refl (fun k => k = w.heap.size + 1 + 1 ∨ k = (B + 1)) w3).set (w.heap.size + 1 + 1) 2 _ (fun _ => .inl rfl)).set (B + 1) 0 _ (fun _ => .inr rfl)).set (B + 1) 1 _ (fun _ => .inr rfl)
      have m0 := e0.fr f4 (by omega)
      have m1 := e1.fr f4 (by omega)
      have m2 : Blk W4 (w.heap.size + 1 + 1) 101 #[.int .i64 tn, .int .u8 0, .int .u64 vn, .slice none 0 0, .int .i64 at_] := by rw [hW4]; exact ((e2.set 2 _).other ⟨B + 1, 0, none⟩ _ (by simp; omega)).other ⟨B + 1, 1, none⟩ _ (by simp; omega)
      have m3 : Blk W4 (B + 1) 32 #[.int .i64 ve, .int .i64 (fltAt ve tq)] := by rw [hW4]; exact ((e3.other ⟨w.heap.size + 1 + 1, 2, none⟩ _ (by simp; omega)).set 0 _).set 1 _
      have hI4 := InS.fresh HVV.out HI3.out f4 (by omega) (fun k h => by omega)
      have hF4 := Fr.trans' HF.out f4 (fun i hi h => by omega)
      have hsz4 := f4.size
      have HI4 := Lib.hid hI4
      have HF4 := Lib.hid hF4
      clear e0 e1 e2 e3 x0 x1 x2 x3 x4 y0 y1 y2 y3 y4 u0 u1 u2 u3 z0 z1 z2 z3 z4 v0 v1 v2 v3 v4 q0 q1 q2 q3 f4 hW4 hI4 hF4 HI3 HF
      obtain ⟨x0, x1, x2, x3, x4, y0, y1, y2, y3, y4⟩ := cells5 m0
      obtain ⟨u0, u1, u2, u3⟩ := cells_of m1
      obtain ⟨z0, z1, z2, z3, z4, v0, v1, v2, v3, v4⟩ := cells5 m2
      obtain ⟨q0, q1, q2, q3⟩ := cells_of m3
      go_upto_region 16 with (fail)
      go_region
      go_wp2
      obtain ⟨W9, hW9⟩ : ∃ W9, W9 = finW W4 w.heap.size (.int .i64 0) (.int .u8 0) (.int .u64 0) (.slice none 0 0) (.int .i64 0) (.int .i64 ve) (.int .i64 (fltAt ve tq)) := ⟨_, rfl⟩
      have hw := finW_fr W4 w.heap.size (.int .i64 0) (.int .u8 0) (.int .u64 0) (.slice none 0 0) (.int .i64 0) (.int .i64 ve) (.int .i64 (fltAt ve tq))
      have hA := finW_field m0 (.int .i64 0) (.int .u8 0) (.int .u64 0) (.slice none 0 0) (.int .i64 0) (.int .i64 ve) (.int .i64 (fltAt ve tq))
      have hB := finW_fault m1 (.int .i64 0) (.int .u8 0) (.int .u64 0) (.slice none 0 0) (.int .i64 0) (.int .i64 ve) (.int .i64 (fltAt ve tq))
      rw [← hW9] at hw hA hB
      unfold finW at hW9
      rw [← hW9]
      have hI9 := InS.fresh HVV.out HI4.out hw (by omega) (fun k h => by omega)
      have hF9 := Fr.trans' HF4.out hw (fun i hi h => by omega)
      have hRR := HR.out.trans (oneR_err2 HT.out HV.out HE.out)
      refine bodyPost_ret (results_cc rfl _ _ ⟨w.heap.size, 0, none⟩ ⟨w.heap.size + 1, 0, none⟩ _ _ rfl rfl (loadVar_field _ _ _ rfl hA.drew) (loadVar_fault _ _ _ rfl hB.drew)) rfl ?_
      rw [hRR, fltAt_ne HE.out]
      exact ⟨_, rfl, ownB_nil _ _, hI9.grew (Drew.grew ⟨1, rfl⟩), hF9.drew⟩
  · go_wp2_with fail
    try rw [← HW2.out]
    refine (rfixed_any l p tq 8 (by omega) _ HI2.out).mono ?_
    obtain ⟨vn, hvn⟩ : ∃ x, x = (fixR l tq 8).1 := ⟨_, rfl⟩
    obtain ⟨ve, hve⟩ : ∃ x, x = (fixR l tq 8).2.1 := ⟨_, rfl⟩
    obtain ⟨vq, hvq⟩ : ∃ x, x = (fixR l tq 8).2.2 := ⟨_, rfl⟩
    have hval : valR l tq 1 = (vn, [], ve, vq) := by rw [hvn, hve, hvq]; rfl
    rw [← hvn, ← hve, ← hvq]
    rintro e w3 ⟨rfl, hI3, hF3⟩
    clear hvn hve hvq
    have e0 := c0.fr hF3 n0
    have e1 := c1.fr hF3 n1
    have e2 := c2.fr hF3 n2
    have e3 := c3.fr hF3 n4
    have hsz := hF3.size
    have HI3 := Lib.hid hI3
    have HF := Lib.hid (Fr.trans HF2.out hF3)
    have HV := Lib.hid hval
    clear c0 c1 c2 c3 hI3 hF3 hval
    obtain ⟨x0, x1, x2, x3, x4, y0, y1, y2, y3, y4⟩ := cells5 e0
    obtain ⟨u0, u1, u2, u3⟩ := cells_of e1
    obtain ⟨z0, z1, z2, z3, z4, v0, v1, v2, v3, v4⟩ := cells5 e2
    obtain ⟨q0, q1, q2, q3⟩ := cells_of e3
    by_cases he : ve = 0
    · subst he
      go_upto_region 15 with (fail)
      obtain ⟨W4, hW4⟩ : ∃ W4, W4 = ((w3.setCell ⟨w.heap.size + 1 + 1, 2, none⟩ (.int .u64 vn)).setCell ⟨B + 1, 0, none⟩ (.int .i64 0)).setCell ⟨B + 1, 1, none⟩ (.int .i64 (fltAt 0 tq)) := ⟨_, rfl⟩
      rw [← hW4]
      have f4 : Fr (fun k => k = w.heap.size + 1 + 1 ∨ k = (B + 1)) w3 W4 := by rw [hW4]; exact (((Fr.refl (fun k => k = w.heap.size + 1 + 1 ∨ k = (B + 1)) w3).set (w.heap.size + 1 + 1) 2 _ (fun _ => .inl rfl)).set (B + 1) 0 _ (fun _ => .inr rfl)).set (B + 1) 1 _ (fun _ => .inr rfl)
      have m0 := e0.fr f4 (by omega)
      have m1 := e1.fr f4 (by omega)
      have m2 : Blk W4 (w.heap.size + 1 + 1) 101 #[.int .i64 tn, .int .u8 1, .int .u64 vn, .slice none 0 0, .int .i64 at_] := by rw [hW4]; exact ((e2.set 2 _).other ⟨B + 1, 0, none⟩ _ (by simp; omega)).other ⟨B + 1, 1, none⟩ _ (by simp; omega)
      have m3 : Blk W4 (B + 1) 32 #[.int .i64 0, .int .i64 (fltAt 0 tq)] := by rw [hW4]; exact ((e3.other ⟨w.heap.size + 1 + 1, 2, none⟩ _ (by simp; omega)).set 0 _).set 1 _
      have hI4 := InS.fresh HVV.out HI3.out f4 (by omega) (fun k h => by omega)
      have hF4 := Fr.trans' HF.out f4 (fun i hi h => by omega)
      have hsz4 := f4.size
      have HI4 := Lib.hid hI4
      have HF4 := Lib.hid hF4
      clear e0 e1 e2 e3 x0 x1 x2 x3 x4 y0 y1 y2 y3 y4 u0 u1 u2 u3 z0 z1 z2 z3 z4 v0 v1 v2 v3 v4 q0 q1 q2 q3 f4 hW4 hI4 hF4 HI3 HF
      obtain ⟨x0, x1, x2, x3, x4, y0, y1, y2, y3, y4⟩ := cells5 m0
      obtain ⟨u0, u1, u2, u3⟩ := cells_of m1
      obtain ⟨z0, z1, z2, z3, z4, v0, v1, v2, v3, v4⟩ := cells5 m2
      obtain ⟨q0, q1, q2, q3⟩ := cells_of m3
      go_wp2_with fail
      obtain ⟨W9, hW9⟩ : ∃ W9, W9 = finW W4 w.heap.size (.int .i64 tn) (.int .u8 1) (.int .u64 vn) (.slice none 0 0) (.int .i64 at_) (.int .i64 0) (.int .i64 0) := ⟨_, rfl⟩
      have hw := finW_fr W4 w.heap.size (.int .i64 tn) (.int .u8 1) (.int .u64 vn) (.slice none 0 0) (.int .i64 at_) (.int .i64 0) (.int .i64 0)
      have hA := finW_field m0 (.int .i64 tn) (.int .u8 1) (.int .u64 vn) (.slice none 0 0) (.int .i64 at_) (.int .i64 0) (.int .i64 0)
      have hB := finW_fault m1 (.int .i64 tn) (.int .u8 1) (.int .u64 vn) (.slice none 0 0) (.int .i64 at_) (.int .i64 0) (.int .i64 0)
      rw [← hW9] at hw hA hB
      unfold finW at hW9
      rw [← hW9]
      have hI9 := InS.fresh HVV.out HI4.out hw (by omega) (fun k h => by omega)
      have hF9 := Fr.trans' HF4.out hw (fun i hi h => by omega)
      have hRR := HR.out.trans (oneR_good HT.out HV.out)
      refine bodyPost_ret (results_cc rfl _ _ ⟨w.heap.size, 0, none⟩ ⟨w.heap.size + 1, 0, none⟩ _ _ rfl rfl (loadVar_field _ _ _ rfl hA) (loadVar_fault _ _ _ rfl hB)) rfl ?_
      rw [hRR]
      exact ⟨_, rfl, ownB_nil _ _, hI9, hF9⟩
    · have hne : ((ve : Int) != 0) = true := by simp; omega
      have HE := Lib.hid he
      clear he
      go_upto_region 15 with (fail)
      obtain ⟨W4, hW4⟩ : ∃ W4, W4 = ((w3.setCell ⟨w.heap.size + 1 + 1, 2, none⟩ (.int .u64 vn)).setCell ⟨B + 1, 0, none⟩ (.int .i64 ve)).setCell ⟨B + 1, 1, none⟩ (.int .i64 (fltAt ve tq)) := ⟨_, rfl⟩
      rw [← hW4]
      have f4 : Fr (fun k => k = w.heap.size + 1 + 1 ∨ k = (B + 1)) w3 W4 := by rw [hW4]; exact (((Fr.refl (fun k => k = w.heap.size + 1 + 1 ∨ k = (B + 1)) w3).set (w.heap.size + 1 + 1) 2 _ (fun _ => .inl rfl)).set (B + 1) 0 _ (fun _ => .inr rfl)).set (B + 1) 1 _ (fun _ => .inr rfl)
      have m0 := e0.fr f4 (by omega)
      have m1 := e1.fr f4 (by omega)
      have m2 : Blk W4 (w.heap.size + 1 + 1) 101 #[.int .i64 tn, .int .u8 1, .int .u64 vn, .slice none 0 0, .int .i64 at_] := by rw [hW4]; exact ((e2.set 2 _).other ⟨B + 1, 0, none⟩ _ (by simp; omega)).other ⟨B + 1, 1, none⟩ _ (by simp; omega)
      have m3 : Blk W4 (B + 1) 32 #[.int .i64 ve, .int .i64 (fltAt ve tq)] := by rw [hW4]; exact ((e3.other ⟨w.heap.size + 1 + 1, 2, none⟩ _ (by simp; omega)).set 0 _).set 1 _
      have hI4 := InS.fresh HVV.out HI3.out f4 (by omega) (fun k h => by omega)
      have hF4 := Fr.trans' HF.out f4 (fun i hi h => by omega)
      have hsz4 := f4.size
      have HI4 := Lib.hid hI4
      have HF4 := Lib.hid hF4
      clear e0 e1 e2 e3 x0 x1 x2 x3 x4 y0 y1 y2 y3 y4 u0 u1 u2 u3 z0 z1 z2 z3 z4 v0 v1 v2 v3 v4 q0 q1 q2 q3 f4 hW4 hI4 hF4 HI3 HF
      obtain ⟨x0, x1, x2, x3, x4, y0, y1, y2, y3, y4⟩ := cells5 m0
      obtain ⟨u0, u1, u2, u3⟩ := cells_of m1
      obtain ⟨z0, z1, z2, z3, z4, v0, v1, v2, v3, v4⟩ := cells5 m2
      obtain ⟨q0, q1, q2, q3⟩ := cells_of m3
      go_upto_region 16 with (fail)
      go_region
      go_wp2
      obtain ⟨W9, hW9⟩ : ∃ W9, W9 = finW W4 w.heap.size (.int .i64 0) (.int .u8 0) (.int .u64 0) (.slice none 0 0) (.int .i64 0) (.int .i64 ve) (.int .i64 (fltAt ve tq)) := ⟨_, rfl⟩
      have hw := finW_fr W4 w.heap.size (.int .i64 0) (.int .u8 0) (.int .u64 0) (.slice none 0 0) (.int .i64 0) (.int .i64 ve) (.int .i64 (fltAt ve tq))
      have hA := finW_field m0 (.int .i64 0) (.int .u8 0) (.int .u64 0) (.slice none 0 0) (.int .i64 0) (.int .i64 ve) (.int .i64 (fltAt ve tq))
      have hB := finW_fault m1 (.int .i64 0) (.int .u8 0) (.int .u64 0) (.slice none 0 0) (.int .i64 0) (.int .i64 ve) (.int .i64 (fltAt ve tq))
      rw [← hW9] at hw hA hB
      unfold finW at hW9
      rw [← hW9]
      have hI9 := InS.fresh HVV.out HI4.out hw (by omega) (fun k h => by omega)
      have hF9 := Fr.trans' HF4.out hw (fun i hi h => by omega)
      have hRR := HR.out.trans (oneR_err2 HT.out HV.out HE.out)
      refine bodyPost_ret (results_cc rfl _ _ ⟨w.heap.size, 0, none⟩ ⟨w.heap.size + 1, 0, none⟩ _ _ rfl rfl (loadVar_field _ _ _ rfl hA.drew) (loadVar_fault _ _ _ rfl hB.drew)) rfl ?_
      rw [hRR, fltAt_ne HE.out]
      exact ⟨_, rfl, ownB_nil _ _, hI9.grew (Drew.grew ⟨1, rfl⟩), hF9.drew⟩
  · go_wp2_with fail
    try rw [← HW2.out]
    refine (rbytes_any l p tq 8192 (by omega) (by omega) hl _ HI2.out).mono ?_
    obtain ⟨bs, hbs⟩ : ∃ x, x = (bytesR l tq 8192).1 := ⟨_, rfl⟩
    obtain ⟨ve, hve⟩ : ∃ x, x = (bytesR l tq 8192).2.1 := ⟨_, rfl⟩
    obtain ⟨vq, hvq⟩ : ∃ x, x = (bytesR l tq 8192).2.2 := ⟨_, rfl⟩
    have hval : valR l tq 2 = (0, bs, ve, vq) := by rw [hbs, hve, hvq]; rfl
    rw [← hbs, ← hve, ← hvq]
    rintro e w3 ⟨vb, rfl, ho, hI3, hF3⟩
    clear hbs hve hvq
    obtain ⟨va, vc, rfl⟩ := bs_len (Sl.of_own ho)
    have hge := fun g e => (own_lt ho g e).1
    have HO := Lib.hid ho
    have HGE := Lib.hid hge
    clear ho hge
    have e0 := c0.fr hF3 n0
    have e1 := c1.fr hF3 n1
    have e2 := c2.fr hF3 n2
    have e3 := c3.fr hF3 n4
    have hsz := hF3.size
    have HI3 := Lib.hid hI3
    have HF := Lib.hid (Fr.trans HF2.out hF3)
    have HV := Lib.hid hval
    clear c0 c1 c2 c3 hI3 hF3 hval
    obtain ⟨x0, x1, x2, x3, x4, y0, y1, y2, y3, y4⟩ := cells5 e0
    obtain ⟨u0, u1, u2, u3⟩ := cells_of e1
    obtain ⟨z0, z1, z2, z3, z4, v0, v1, v2, v3, v4⟩ := cells5 e2
    obtain ⟨q0, q1, q2, q3⟩ := cells_of e3
    by_cases he : ve = 0
    · subst he
      go_upto_region 15 with (fail)
      obtain ⟨W4, hW4⟩ : ∃ W4, W4 = ((w3.setCell ⟨w.heap.size + 1 + 1, 3, none⟩ (.slice va bs.length vc)).setCell ⟨B + 1, 0, none⟩ (.int .i64 0)).setCell ⟨B + 1, 1, none⟩ (.int .i64 (fltAt 0 tq)) := ⟨_, rfl⟩
      rw [← hW4]
      have f4 : Fr (fun k => k = w.heap.size + 1 + 1 ∨ k = (B + 1)) w3 W4 := by rw [hW4]; exact (((Fr.refl (fun k => k = w.heap.size + 1 + 1 ∨ k = (B + 1)) w3).set (w.heap.size + 1 + 1) 3 _ (fun _ => .inl rfl)).set (B + 1) 0 _ (fun _ => .inr rfl)).set (B + 1) 1 _ (fun _ => .inr rfl)
      have m0 := e0.fr f4 (by omega)
      have m1 := e1.fr f4 (by omega)
      have m2 : Blk W4 (w.heap.size + 1 + 1) 101 #[.int .i64 tn, .int .u8 2, .int .u64 0, .slice va bs.length vc, .int .i64 at_] := by rw [hW4]; exact ((e2.set 3 _).other ⟨B + 1, 0, none⟩ _ (by simp; omega)).other ⟨B + 1, 1, none⟩ _ (by simp; omega)
      have m3 : Blk W4 (B + 1) 32 #[.int .i64 0, .int .i64 (fltAt 0 tq)] := by rw [hW4]; exact ((e3.other ⟨w.heap.size + 1 + 1, 3, none⟩ _ (by simp; omega)).set 0 _).set 1 _
      have hI4 := InS.fresh HVV.out HI3.out f4 (by omega) (fun k h => by omega)
      have hF4 := Fr.trans' HF.out f4 (fun i hi h => by omega)
      have ho4 := own_fr HO.out f4 (fun g hg h => by have := HGE.out g hg; omega)
      have HO4 := Lib.hid ho4
      clear ho4
      have hsz4 := f4.size
      have HI4 := Lib.hid hI4
      have HF4 := Lib.hid hF4
      clear e0 e1 e2 e3 x0 x1 x2 x3 x4 y0 y1 y2 y3 y4 u0 u1 u2 u3 z0 z1 z2 z3 z4 v0 v1 v2 v3 v4 q0 q1 q2 q3 f4 hW4 hI4 hF4 HI3 HF
      obtain ⟨x0, x1, x2, x3, x4, y0, y1, y2, y3, y4⟩ := cells5 m0
      obtain ⟨u0, u1, u2, u3⟩ := cells_of m1
      obtain ⟨z0, z1, z2, z3, z4, v0, v1, v2, v3, v4⟩ := cells5 m2
      obtain ⟨q0, q1, q2, q3⟩ := cells_of m3
      go_wp2_with fail
      obtain ⟨W9, hW9⟩ : ∃ W9, W9 = finW W4 w.heap.size (.int .i64 tn) (.int .u8 2) (.int .u64 0) (.slice va bs.length vc) (.int .i64 at_) (.int .i64 0) (.int .i64 0) := ⟨_, rfl⟩
      have hw := finW_fr W4 w.heap.size (.int .i64 tn) (.int .u8 2) (.int .u64 0) (.slice va bs.length vc) (.int .i64 at_) (.int .i64 0) (.int .i64 0)
      have hA := finW_field m0 (.int .i64 tn) (.int .u8 2) (.int .u64 0) (.slice va bs.length vc) (.int .i64 at_) (.int .i64 0) (.int .i64 0)
      have hB := finW_fault m1 (.int .i64 tn) (.int .u8 2) (.int .u64 0) (.slice va bs.length vc) (.int .i64 at_) (.int .i64 0) (.int .i64 0)
      rw [← hW9] at hw hA hB
      unfold finW at hW9
      rw [← hW9]
      have hI9 := InS.fresh HVV.out HI4.out hw (by omega) (fun k h => by omega)
      have hF9 := Fr.trans' HF4.out hw (fun i hi h => by omega)
      have hRR := HR.out.trans (oneR_good HT.out HV.out)
      have ho9 := own_fr HO4.out hw (fun g hg h => by have := HGE.out g hg; omega)
      refine bodyPost_ret (results_cc rfl _ _ ⟨w.heap.size, 0, none⟩ ⟨w.heap.size + 1, 0, none⟩ _ _ rfl rfl (loadVar_field _ _ _ rfl hA) (loadVar_fault _ _ _ rfl hB)) rfl ?_
      rw [hRR]
      exact ⟨_, rfl, (own_mono (ho9) (by omega)), hI9, hF9⟩
    · have hne : ((ve : Int) != 0) = true := by simp; omega
      have HE := Lib.hid he
      clear he
      go_upto_region 15 with (fail)
      obtain ⟨W4, hW4⟩ : ∃ W4, W4 = ((w3.setCell ⟨w.heap.size + 1 + 1, 3, none⟩ (.slice va bs.length vc)).setCell ⟨B + 1, 0, none⟩ (.int .i64 ve)).setCell ⟨B + 1, 1, none⟩ (.int .i64 (fltAt ve tq)) := ⟨_, rfl⟩
      rw [← hW4]
      have f4 : Fr (fun k => k = w.heap.size + 1 + 1 ∨ k = (B + 1)) w3 W4 := by rw [hW4]; exact (((Fr.refl (fun k => k = w.heap.size + 1 + 1 ∨ k = (B + 1)) w3).set (w.heap.size + 1 + 1) 3 _ (fun _ => .inl rfl)).set (B + 1) 0 _ (fun _ => .inr rfl)).set (B + 1) 1 _ (fun _ => .inr rfl)
      have m0 := e0.fr f4 (by omega)
      have m1 := e1.fr f4 (by omega)
      have m2 : Blk W4 (w.heap.size + 1 + 1) 101 #[.int .i64 tn, .int .u8 2, .int .u64 0, .slice va bs.length vc, .int .i64 at_] := by rw [hW4]; exact ((e2.set 3 _).other ⟨B + 1, 0, none⟩ _ (by simp; omega)).other ⟨B + 1, 1, none⟩ _ (by simp; omega)
      have m3 : Blk W4 (B + 1) 32 #[.int .i64 ve, .int .i64 (fltAt ve tq)] := by rw [hW4]; exact ((e3.other ⟨w.heap.size + 1 + 1, 3, none⟩ _ (by simp; omega)).set 0 _).set 1 _
      have hI4 := InS.fresh HVV.out HI3.out f4 (by omega) (fun k h => by omega)
      have hF4 := Fr.trans' HF.out f4 (fun i hi h => by omega)
      have ho4 := own_fr HO.out f4 (fun g hg h => by have := HGE.out g hg; omega)
      have HO4 := Lib.hid ho4
      clear ho4
      have hsz4 := f4.size
      have HI4 := Lib.hid hI4
      have HF4 := Lib.hid hF4
      clear e0 e1 e2 e3 x0 x1 x2 x3 x4 y0 y1 y2 y3 y4 u0 u1 u2 u3 z0 z1 z2 z3 z4 v0 v1 v2 v3 v4 q0 q1 q2 q3 f4 hW4 hI4 hF4 HI3 HF
      obtain ⟨x0, x1, x2, x3, x4, y0, y1, y2, y3, y4⟩ := cells5 m0
      obtain ⟨u0, u1, u2, u3⟩ := cells_of m1
      obtain ⟨z0, z1, z2, z3, z4, v0, v1, v2, v3, v4⟩ := cells5 m2
      obtain ⟨q0, q1, q2, q3⟩ := cells_of m3
      go_upto_region 16 with (fail)
      go_region
      go_wp2
      obtain ⟨W9, hW9⟩ : ∃ W9, W9 = finW W4 w.heap.size (.int .i64 0) (.int .u8 0) (.int .u64 0) (.slice none 0 0) (.int .i64 0) (.int .i64 ve) (.int .i64 (fltAt ve tq)) := ⟨_, rfl⟩
      have hw := finW_fr W4 w.heap.size (.int .i64 0) (.int .u8 0) (.int .u64 0) (.slice none 0 0) (.int .i64 0) (.int .i64 ve) (.int .i64 (fltAt ve tq))
      have hA := finW_field m0 (.int .i64 0) (.int .u8 0) (.int .u64 0) (.slice none 0 0) (.int .i64 0) (.int .i64 ve) (.int .i64 (fltAt ve tq))
      have hB := finW_fault m1 (.int .i64 0) (.int .u8 0) (.int .u64 0) (.slice none 0 0) (.int .i64 0) (.int .i64 ve) (.int .i64 (fltAt ve tq))
      rw [← hW9] at hw hA hB
      unfold finW at hW9
      rw [← hW9]
      have hI9 := InS.fresh HVV.out HI4.out hw (by omega) (fun k h => by omega)
      have hF9 := Fr.trans' HF4.out hw (fun i hi h => by omega)
      have hRR := HR.out.trans (oneR_err2 HT.out HV.out HE.out)
      refine bodyPost_ret (results_cc rfl _ _ ⟨w.heap.size, 0, none⟩ ⟨w.heap.size + 1, 0, none⟩ _ _ rfl rfl (loadVar_field _ _ _ rfl hA.drew) (loadVar_fault _ _ _ rfl hB.drew)) rfl ?_
      rw [hRR, fltAt_ne HE.out]
      exact ⟨_, rfl, ownB_nil _ _, hI9.grew (Drew.grew ⟨1, rfl⟩), hF9.drew⟩
  · go_wp2_with fail
    try rw [← HW2.out]
    refine (rfixed_any l p tq 4 (by omega) _ HI2.out).mono ?_
    obtain ⟨vn, hvn⟩ : ∃ x, x = (fixR l tq 4).1 := ⟨_, rfl⟩
    obtain ⟨ve, hve⟩ : ∃ x, x = (fixR l tq 4).2.1 := ⟨_, rfl⟩
    obtain ⟨vq, hvq⟩ : ∃ x, x = (fixR l tq 4).2.2 := ⟨_, rfl⟩
    have hval : valR l tq 5 = (vn, [], ve, vq) := by rw [hvn, hve, hvq]; rfl
    rw [← hvn, ← hve, ← hvq]
    rintro e w3 ⟨rfl, hI3, hF3⟩
    clear hvn hve hvq
    have e0 := c0.fr hF3 n0
    have e1 := c1.fr hF3 n1
    have e2 := c2.fr hF3 n2
    have e3 := c3.fr hF3 n4
    have hsz := hF3.size
    have HI3 := Lib.hid hI3
    have HF := Lib.hid (Fr.trans HF2.out hF3)
    have HV := Lib.hid hval
    clear c0 c1 c2 c3 hI3 hF3 hval
    obtain ⟨x0, x1, x2, x3, x4, y0, y1, y2, y3, y4⟩ := cells5 e0
    obtain ⟨u0, u1, u2, u3⟩ := cells_of e1
    obtain ⟨z0, z1, z2, z3, z4, v0, v1, v2, v3, v4⟩ := cells5 e2
    obtain ⟨q0, q1, q2, q3⟩ := cells_of e3
    by_cases he : ve = 0
    · subst he
      go_upto_region 15 with (fail)
      obtain ⟨W4, hW4⟩ : ∃ W4, W4 = ((w3.setCell ⟨w.heap.size + 1 + 1, 2, none⟩ (.int .u64 vn)).setCell ⟨B + 1, 0, none⟩ (.int .i64 0)).setCell ⟨B + 1, 1, none⟩ (.int .i64 (fltAt 0 tq)) := ⟨_, rfl⟩
      rw [← hW4]
      have f4 : Fr (fun k => k = w.heap.size + 1 + 1 ∨ k = (B + 1)) w3 W4 := by rw [hW4]; exact (((Fr.refl (fun k => k = w.heap.size + 1 + 1 ∨ k = (B + 1)) w3).set (w.heap.size + 1 + 1) 2 _ (fun _ => .inl rfl)).set (B + 1) 0 _ (fun _ => .inr rfl)).set (B + 1) 1 _ (fun _ => .inr rfl)
      have m0 := e0.fr f4 (by omega)
      have m1 := e1.fr f4 (by omega)
      have m2 : Blk W4 (w.heap.size + 1 + 1) 101 #[.int .i64 tn, .int .u8 5, .int .u64 vn, .slice none 0 0, .int .i64 at_] := by rw [hW4]; exact ((e2.set 2 _).other ⟨B + 1, 0, none⟩ _ (by simp; omega)).other ⟨B + 1, 1, none⟩ _ (by simp; omega)
      have m3 : Blk W4 (B + 1) 32 #[.int .i64 0, .int .i64 (fltAt 0 tq)] := by rw [hW4]; exact ((e3.other ⟨w.heap.size + 1 + 1, 2, none⟩ _ (by simp; omega)).set 0 _).set 1 _
      have hI4 := InS.fresh HVV.out HI3.out f4 (by omega) (fun k h => by omega)
      have hF4 := Fr.trans' HF.out f4 (fun i hi h => by omega)
      have hsz4 := f4.size
      have HI4 := Lib.hid hI4
      have HF4 := Lib.hid hF4
      clear e0 e1 e2 e3 x0 x1 x2 x3 x4 y0 y1 y2 y3 y4 u0 u1 u2 u3 z0 z1 z2 z3 z4 v0 v1 v2 v3 v4 q0 q1 q2 q3 f4 hW4 hI4 hF4 HI3 HF
      obtain ⟨x0, x1, x2, x3, x4, y0, y1, y2, y3, y4⟩ := cells5 m0
      obtain ⟨u0, u1, u2, u3⟩ := cells_of m1
      obtain ⟨z0, z1, z2, z3, z4, v0, v1, v2, v3, v4⟩ := cells5 m2
      obtain ⟨q0, q1, q2, q3⟩ := cells_of m3
      go_wp2_with fail
      obtain ⟨W9, hW9⟩ : ∃ W9, W9 = finW W4 w.heap.size (.int .i64 tn) (.int .u8 5) (.int .u64 vn) (.slice none 0 0) (.int .i64 at_) (.int .i64 0) (.int .i64 0) := ⟨_, rfl⟩
      have hw := finW_fr W4 w.heap.size (.int .i64 tn) (.int .u8 5) (.int .u64 vn) (.slice none 0 0) (.int .i64 at_) (.int .i64 0) (.int .i64 0)
      have hA := finW_field m0 (.int .i64 tn) (.int .u8 5) (.int .u64 vn) (.slice none 0 0) (.int .i64 at_) (.int .i64 0) (.int .i64 0)
      have hB := finW_fault m1 (.int .i64 tn) (.int .u8 5) (.int .u64 vn) (.slice none 0 0) (.int .i64 at_) (.int .i64 0) (.int .i64 0)
      rw [← hW9] at hw hA hB
      unfold finW at hW9
      rw [← hW9]
      have hI9 := InS.fresh HVV.out HI4.out hw (by omega) (fun k h => by omega)
      have hF9 := Fr.trans' HF4.out hw (fun i hi h => by omega)
      have hRR := HR.out.trans (oneR_good HT.out HV.out)
      refine bodyPost_ret (results_cc rfl _ _ ⟨w.heap.size, 0, none⟩ ⟨w.heap.size + 1, 0, none⟩ _ _ rfl rfl (loadVar_field _ _ _ rfl hA) (loadVar_fault _ _ _ rfl hB)) rfl ?_
      rw [hRR]
      exact ⟨_, rfl, ownB_nil _ _, hI9, hF9⟩
    · have hne : ((ve : Int) != 0) = true := by simp; omega
      have HE := Lib.hid he
      clear he
      go_upto_region 15 with (fail)
      obtain ⟨W4, hW4⟩ : ∃ W4, W4 = ((w3.setCell ⟨w.heap.size + 1 + 1, 2, none⟩ (.int .u64 vn)).setCell ⟨B + 1, 0, none⟩ (.int .i64 ve)).setCell ⟨B + 1, 1, none⟩ (.int .i64 (fltAt ve tq)) := ⟨_, rfl⟩
      rw [← hW4]
      have f4 : Fr (fun k => k = w.heap.size + 1 + 1 ∨ k = (B + 1)) w3 W4 := by rw [hW4]; exact (((Fr.refl (fun k => k = w.heap.size + 1 + 1 ∨ k = (B + 1)) w3).set (w.heap.size + 1 + 1) 2 _ (fun _ => .inl rfl)).set (B + 1) 0 _ (fun _ => .inr rfl)).set (B + 1) 1 _ (fun _ => .inr rfl)
      have m0 := e0.fr f4 (by omega)
      have m1 := e1.fr f4 (by omega)
      have m2 : Blk W4 (w.heap.size + 1 + 1) 101 #[.int .i64 tn, .int .u8 5, .int .u64 vn, .slice none 0 0, .int .i64 at_] := by rw [hW4]; exact ((e2.set 2 _).other ⟨B + 1, 0, none⟩ _ (by simp; omega)).other ⟨B + 1, 1, none⟩ _ (by simp; omega)
      have m3 : Blk W4 (B + 1) 32 #[.int .i64 ve, .int .i64 (fltAt ve tq)] := by rw [hW4]; exact ((e3.other ⟨w.heap.size + 1 + 1, 2, none⟩ _ (by simp; omega)).set 0 _).set 1 _
      have hI4 := InS.fresh HVV.out HI3.out f4 (by omega) (fun k h => by omega)
      have hF4 := Fr.trans' HF.out f4 (fun i hi h => by omega)
      have hsz4 := f4.size
      have HI4 := Lib.hid hI4
      have HF4 := Lib.hid hF4
      clear e0 e1 e2 e3 x0 x1 x2 x3 x4 y0 y1 y2 y3 y4 u0 u1 u2 u3 z0 z1 z2 z3 z4 v0 v1 v2 v3 v4 q0 q1 q2 q3 f4 hW4 hI4 hF4 HI3 HF
      obtain ⟨x0, x1, x2, x3, x4, y0, y1, y2, y3, y4⟩ := cells5 m0
      obtain ⟨u0, u1, u2, u3⟩ := cells_of m1
      obtain ⟨z0, z1, z2, z3, z4, v0, v1, v2, v3, v4⟩ := cells5 m2
      obtain ⟨q0, q1, q2, q3⟩ := cells_of m3
      go_upto_region 16 with (fail)
      go_region
      go_wp2
      obtain ⟨W9, hW9⟩ : ∃ W9, W9 = finW W4 w.heap.size (.int .i64 0) (.int .u8 0) (.int .u64 0) (.slice none 0 0) (.int .i64 0) (.int .i64 ve) (.int .i64 (fltAt ve tq)) := ⟨_, rfl⟩
      have hw := finW_fr W4 w.heap.size (.int .i64 0) (.int .u8 0) (.int .u64 0) (.slice none 0 0) (.int .i64 0) (.int .i64 ve) (.int .i64 (fltAt ve tq))
      have hA := finW_field m0 (.int .i64 0) (.int .u8 0) (.int .u64 0) (.slice none 0 0) (.int .i64 0) (.int .i64 ve) (.int .i64 (fltAt ve tq))
      have hB := finW_fault m1 (.int .i64 0) (.int .u8 0) (.int .u64 0) (.slice none 0 0) (.int .i64 0) (.int .i64 ve) (.int .i64 (fltAt ve tq))
      rw [← hW9] at hw hA hB
      unfold finW at hW9
      rw [← hW9]
      have hI9 := InS.fresh HVV.out HI4.out hw (by omega) (fun k h => by omega)
      have hF9 := Fr.trans' HF4.out hw (fun i hi h => by omega)
      have hRR := HR.out.trans (oneR_err2 HT.out HV.out HE.out)
      refine bodyPost_ret (results_cc rfl _ _ ⟨w.heap.size, 0, none⟩ ⟨w.heap.size + 1, 0, none⟩ _ _ rfl rfl (loadVar_field _ _ _ rfl hA.drew) (loadVar_fault _ _ _ rfl hB.drew)) rfl ?_
      rw [hRR, fltAt_ne HE.out]
      exact ⟨_, rfl, ownB_nil _ _, hI9.grew (Drew.grew ⟨1, rfl⟩), hF9.drew⟩
theorem rone_any {K : Value → Prop} (l : List UInt8) (p at_ : Nat) (hl : l.length ≤ 1000000000) (w : World) (h : InR K w p l at_) :
    Calls Tryz.prog 71 #[.pointer (some ⟨p, 0, none⟩)] w fun e w' => ∃ v, e = .returned (.tuple #[fldA (oneR l at_).1 v, faultV (oneR l at_).2.1 (oneR l at_).2.2.1]) ∧ OwnB w' w.heap.size v (fB (oneR l at_).1) ∧ InR K w' p l (oneR l at_).2.2.2 ∧ Fr (· = p) w w' := by
  obtain ⟨vv, hk, hb, hv⟩ := h.fix
  refine (rone_v l p at_ vv hl w hb hv).mono ?_
  rintro e w' ⟨v, h1, h2, h3, h4⟩
  exact ⟨v, h1, h2, h3.loose hk, h4⟩
end Go.Proofs.YtbjoohafgkodcaaGreat
