/- skip.Fields: contract. ; skip.each: the iterator over the fields of bytes. ; skip.which, Of, Without: contracts. ; Contract of skip.one. -/
import Derived.Test.YtbjoohafgkodcaaGreatFld
import Derived.Test.YtbjoohafgkodcaaGreatInb
import Derived.Test.YtbjoohafgkodcaaGreatItw
namespace Go.Proofs.YtbjoohafgkodcaaGreat
open Go Go.RowKit Go.Shelf
attribute [local go_sem] Oper.semAt_some

/-- a field and a fault are stored, cell by cell, in blocks r and r + 1 -/
def finW (W : World) (r : Nat) (x0 x1 x2 x3 x4 f0 f1 : Value) : World :=
  ((((((W.setCell ⟨r, 0, none⟩ x0).setCell ⟨r, 1, none⟩ x1).setCell ⟨r, 2, none⟩ x2).setCell ⟨r, 3, none⟩ x3).setCell ⟨r, 4, none⟩ x4).setCell ⟨r + 1, 0, none⟩ f0).setCell ⟨r + 1, 1, none⟩ f1
theorem finW_field {W : World} {r : Nat} {y0 y1 y2 y3 y4 : Value} (h : Blk W r 101 #[y0, y1, y2, y3, y4]) (x0 x1 x2 x3 x4 f0 f1 : Value) : Blk (finW W r x0 x1 x2 x3 x4 f0 f1) r 101 #[x0, x1, x2, x3, x4] :=
  (((((((h.set 0 x0).set 1 x1).set 2 x2).set 3 x3).set 4 x4).other ⟨r + 1, 0, none⟩ f0 (by simp)).other ⟨r + 1, 1, none⟩ f1 (by simp))
theorem finW_fault {W : World} {r : Nat} {y0 y1 : Value} (h : Blk W (r + 1) 32 #[y0, y1]) (x0 x1 x2 x3 x4 f0 f1 : Value) : Blk (finW W r x0 x1 x2 x3 x4 f0 f1) (r + 1) 32 #[f0, f1] :=
  ((((((h.other ⟨r, 0, none⟩ x0 (by simp)).other ⟨r, 1, none⟩ x1 (by simp)).other ⟨r, 2, none⟩ x2 (by simp)).other ⟨r, 3, none⟩ x3 (by simp)).other ⟨r, 4, none⟩ x4 (by simp)).set 0 f0).set 1 f1
theorem finW_fr (W : World) (r : Nat) (x0 x1 x2 x3 x4 f0 f1 : Value) : Fr (fun k => k = r ∨ k = r + 1) W (finW W r x0 x1 x2 x3 x4 f0 f1) :=
  (((((((Fr.refl (fun k => k = r ∨ k = r + 1) W).set r 0 x0 (fun _ => .inl rfl)).set r 1 x1 (fun _ => .inl rfl)).set r 2 x2 (fun _ => .inl rfl)).set r 3 x3 (fun _ => .inl rfl)).set r 4 x4 (fun _ => .inl rfl)).set (r + 1) 0 f0 (fun _ => .inr rfl)).set (r + 1) 1 f1 (fun _ => .inr rfl)
theorem oneR_err1 {l : List UInt8} {p : Nat} {tn tw te tq : Nat} (h : (tn, tw, te, tq) = tagR l p) (he : te ≠ 0) : oneR l p = (zeroF, te, p, p) := by
  have e := tagR_err l p (by rw [← h]; exact he)
  unfold oneR; rw [← h, if_pos (by exact he)]; rw [← h] at e; simp only at e ⊢; rw [e.1]
theorem oneR_err2 {l : List UInt8} {p : Nat} {tn tw tq vn ve vq : Nat} {bs : List UInt8} (h : (tn, tw, 0, tq) = tagR l p) (hv : valR l tq tw = (vn, bs, ve, vq)) (he : ve ≠ 0) : oneR l p = (zeroF, ve, tq, vq) := by
  unfold oneR; rw [← h, if_neg (by simp)]; simp only; rw [hv, if_pos (by exact he)]
theorem oneR_good {l : List UInt8} {p : Nat} {tn tw tq vn vq : Nat} {bs : List UInt8} (h : (tn, tw, 0, tq) = tagR l p) (hv : valR l tq tw = (vn, bs, 0, vq)) : oneR l p = (((tn : Int), tw, vn, bs, (p : Int)), 0, 0, vq) := by
  unfold oneR; rw [← h, if_neg (by simp)]; simp only; rw [hv, if_neg (by simp)]
theorem fltAt_ne {e a : Nat} (h : e ≠ 0) : fltAt e a = a := if_neg h

set_option maxRecDepth 100000 in
set_option maxHeartbeats 4000000 in
theorem skone_v (l : List UInt8) (p at_ : Nat) (vv : Value) (hl : l.length ≤ 1000000000) (w : World) (hvv : Bs w vv l) (h : InI (· = vv) w p l at_) :
    Calls Tryz.prog 132 #[.pointer (some ⟨p, 0, none⟩)] w fun e w' => ∃ v, e = .returned (.tuple #[fldA (oneR l at_).1 v, faultV (oneR l at_).2.1 (oneR l at_).2.2.1]) ∧ OwnB w' w.heap.size v (fB (oneR l at_).1) ∧ InI (· = vv) w' p l (oneR l at_).2.2.2 ∧ Fr (· = p) w w' := by
  obtain ⟨R, hR⟩ : ∃ R, R = oneR l at_ := ⟨_, rfl⟩
  rw [← hR]
  obtain ⟨T, hT⟩ : ∃ T, T = tagR l at_ := ⟨_, rfl⟩
  have hpl := h.lt
  have hat : at_ ≤ l.length := h.choose_spec.2.2.1
  obtain ⟨w0, hw0⟩ : ∃ w0, w0 = (((w.alloc (.cells #[.int .i64 0, .int .u8 0, .int .u64 0, .slice none 0 0, .int .i64 0] 101)).alloc (.cells #[.int .i64 0, .int .i64 0] 32)).alloc (.cells #[.int .i64 0, .int .u8 0, .int .u64 0, .slice none 0 0, .int .i64 at_] 101)) := ⟨_, rfl⟩
  have gw0 : Grew w w0 := by rw [hw0]; exact (((Below.refl _ _).alloc (Nat.le_refl _) _).alloc (by simp) _).alloc (by simp; omega) _
  have hz0 : w0.heap.size = w.heap.size + 1 + 1 + 1 := by rw [hw0]; simp
  have k0 : Blk w0 w.heap.size 101 #[.int .i64 0, .int .u8 0, .int .u64 0, .slice none 0 0, .int .i64 0] := by rw [hw0]; exact ((Blk.new _ _ _).alloc _).alloc _
  have k1 : Blk w0 (w.heap.size + 1) 32 #[.int .i64 0, .int .i64 0] := by rw [hw0]; exact (Blk.at (by simp)).alloc _
  have k2 : Blk w0 (w.heap.size + 1 + 1) 101 #[.int .i64 0, .int .u8 0, .int .u64 0, .slice none 0 0, .int .i64 at_] := by rw [hw0]; exact Blk.at (by simp)
  have hI0 := h.grew gw0
  have H := Lib.hid h
  have HVV := Lib.hid hvv
  clear hvv
  have HR := Lib.hid hR
  clear h hR
  go_enter Tryz.func132, Tryz.ntmps132
  go_wp2_with fail
  refine (at_any l p at_ _ (H.out.grew ((grew_alloc _ _).trans (grew_alloc _ _)))).mono ?_
  rintro e w1 ⟨rfl, rfl⟩
  go_wp2_with fail
  rw [← hw0]
  refine (itag_any l p at_ _ hI0).mono ?_
  rw [← hT]
  obtain ⟨tn, tw, te, tq⟩ := T
  simp only
  rintro e w1 ⟨rfl, hI1, hF1⟩
  have n0 : w.heap.size ≠ p := by omega
  have n1 : w.heap.size + 1 ≠ p := by omega
  have n2 : w.heap.size + 1 + 1 ≠ p := by omega
  have b0 := k0.fr hF1 n0
  have b1 := k1.fr hF1 n1
  have b2 := k2.fr hF1 n2
  have hz1 : w.heap.size + 1 + 1 + 1 ≤ w1.heap.size := by have := hF1.size; omega
  have HW0 := Lib.hid hw0
  have HZ0 := Lib.hid hz0
  clear k0 k1 k2 hw0 hz0 hI0
  go_upto_region 3 with (fail)
  obtain ⟨W1, hW1⟩ : ∃ W1, W1 = w1.alloc (.cells #[.int .i64 te, .int .i64 (fltAt te at_)] 32) := ⟨_, rfl⟩
  try rw [← hW1]
  have ga := grew_alloc w1 (.cells #[.int .i64 te, .int .i64 (fltAt te at_)] 32)
  rw [← hW1] at ga
  have hzw : W1.heap.size = w1.heap.size + 1 := by rw [hW1, World.size_alloc]
  have d0 := b0.grew ga
  have d1 := b1.grew ga
  have d2 := b2.grew ga
  have d3 : Blk W1 w1.heap.size 32 #[.int .i64 te, .int .i64 (fltAt te at_)] := by rw [hW1]; exact Blk.new _ _ _
  have HF1 := Lib.hid (Fr.trans (Fr.of_grew gw0) (Fr.trans hF1 (Fr.of_grew ga)))
  have hIW := Lib.hid (hI1.grew ga)
  have n3 : w1.heap.size ≠ p := by omega
  obtain ⟨B, hB⟩ : ∃ B, B = w1.heap.size := ⟨_, rfl⟩
  rw [← hB] at d3 n3 hzw hz1
  try rw [← hB]
  clear b0 b1 b2 ga hW1 hF1 hI1 hB
  obtain ⟨x0, x1, x2, x3, x4, y0, y1, y2, y3, y4⟩ := cells5 d0
  obtain ⟨u0, u1, u2, u3⟩ := cells_of d1
  obtain ⟨z0, z1, z2, z3, z4, v0, v1, v2, v3, v4⟩ := cells5 d2
  obtain ⟨q0, q1, q2, q3⟩ := cells_of d3
  by_cases he : te ≠ 0
  · have hne : ((te : Int) != 0) = true := by simp; omega
    go_wp2_with fail
    go_region
    go_wp2
    obtain ⟨W9, hW9⟩ : ∃ W9, W9 = finW W1 w.heap.size (.int .i64 0) (.int .u8 0) (.int .u64 0) (.slice none 0 0) (.int .i64 0) (.int .i64 te) (.int .i64 (fltAt te at_)) := ⟨_, rfl⟩
    have hw := finW_fr W1 w.heap.size (.int .i64 0) (.int .u8 0) (.int .u64 0) (.slice none 0 0) (.int .i64 0) (.int .i64 te) (.int .i64 (fltAt te at_))
    have hA := finW_field d0 (.int .i64 0) (.int .u8 0) (.int .u64 0) (.slice none 0 0) (.int .i64 0) (.int .i64 te) (.int .i64 (fltAt te at_))
    have hB := finW_fault d1 (.int .i64 0) (.int .u8 0) (.int .u64 0) (.slice none 0 0) (.int .i64 0) (.int .i64 te) (.int .i64 (fltAt te at_))
    rw [← hW9] at hw hA hB
    unfold finW at hW9
    rw [← hW9]
    have hI9 := InS.fresh HVV.out hIW.out hw (by omega) (fun k h => by omega)
    have hF9 := Fr.trans' HF1.out hw (fun i hi h => by omega)
    have hq : tq = at_ := by have := tagR_err l at_ (by rw [← hT]; exact he); rw [← hT] at this; exact this.1
    have hRR := HR.out.trans (oneR_err1 hT he)
    refine bodyPost_ret (results_cc rfl _ _ ⟨w.heap.size, 0, none⟩ ⟨w.heap.size + 1, 0, none⟩ _ _ rfl rfl (loadVar_field _ _ _ rfl hA.drew) (loadVar_fault _ _ _ rfl hB.drew)) rfl ?_
    rw [hRR, fltAt_ne he]
    exact ⟨_, rfl, ownB_nil _ _, by rw [← hq]; exact hI9.grew (Drew.grew ⟨1, rfl⟩), hF9.drew⟩
  obtain rfl : te = 0 := by omega
  have hto := tagR_ok l at_ hat (by rw [← hT])
  rw [← hT] at hto
  obtain ⟨-, t2, -, -, t5⟩ := hto
  have HT := Lib.hid hT
  clear hT
  go_upto_region 7 with (fail)
  obtain ⟨W2, hW2⟩ : ∃ W2, W2 = (W1.setCell ⟨w.heap.size + 1 + 1, 0, none⟩ (.int .i64 tn)).setCell ⟨w.heap.size + 1 + 1, 1, none⟩ (.int .u8 tw) := ⟨_, rfl⟩
  try rw [← hW2]
  have s2 := fr_set2 W1 (w.heap.size + 1 + 1) (.int .i64 tn) (.int .u8 tw)
  rw [← hW2] at s2
  have c0 := d0.fr s2 (by omega)
  have c1 := d1.fr s2 (by omega)
  have c2 : Blk W2 (w.heap.size + 1 + 1) 101 #[.int .i64 tn, .int .u8 tw, .int .u64 0, .slice none 0 0, .int .i64 at_] := by rw [hW2]; exact (d2.set 0 _).set 1 _
  have c3 := d3.fr s2 (by omega)
  have hzz : W2.heap.size = W1.heap.size := by rw [hW2]; simp
  have HF2 : RowKit.Hid (Fr (· = p) w W2) := Lib.hid (by rw [hW2]; exact (HF1.out.set _ 0 _ (fun h => absurd h (by omega))).set _ 1 _ (fun h => absurd h (by omega)))
  have HI2 := Lib.hid (show InI (· = vv) W2 p l tq from by rw [hW2]; exact InS.fresh HVV.out (InS.fresh HVV.out hIW.out ((Fr.refl (· = w.heap.size + 1 + 1) W1).set _ 0 _ (fun _ => rfl)) (by omega) (fun k h => by omega)) ((Fr.refl (· = w.heap.size + 1 + 1) _).set _ 1 _ (fun _ => rfl)) (by omega) (fun k h => by omega))
  have HW2 := Lib.hid hW2
  clear hW2 s2 d0 d1 d2 d3 x0 x1 x2 x3 x4 y0 y1 y2 y3 y4 u0 u1 u2 u3 z0 z1 z2 z3 z4 v0 v1 v2 v3 v4 q0 q1 q2 q3 HF1 hIW
  rcases wireB_or t5 with rfl | rfl | rfl | rfl
  · go_wp2_with fail
    try rw [← HW2.out]
    refine (ivarint_any l p tq _ HI2.out).mono ?_
    obtain ⟨vn, hvn⟩ : ∃ x, x = (vget (l.drop tq)).1 := ⟨_, rfl⟩
    obtain ⟨ve, hve⟩ : ∃ x, x = (vget (l.drop tq)).2.2 := ⟨_, rfl⟩
    obtain ⟨vq, hvq⟩ : ∃ x, x = tq + (vget (l.drop tq)).2.1 := ⟨_, rfl⟩
    have hval : valR l tq 0 = (vn, [], ve, vq) := by rw [hvn, hve, hvq]; rfl
    rw [← hvn, ← hve, ← hvq]
    rintro e w3 ⟨rfl, hI3, hF3⟩
    clear hvn hve hvq
    have e0 := c0.fr hF3 n0
    have e1 := c1.fr hF3 n1
    have e2 := c2.fr hF3 n2
    have e3 := c3.fr hF3 n3
    have hsz := hF3.size
    have HI3 := Lib.hid hI3
    have HF := Lib.hid (Fr.trans HF2.out hF3)
    have HV := Lib.hid hval
    clear c0 c1 c2 c3 hI3 hF3 hval
    obtain ⟨x0, x1, x2, x3, x4, y0, y1, y2, y3, y4⟩ := cells5 e0
    obtain ⟨u0, u1, u2, u3⟩ := cells_of e1
    obtain ⟨z0, z1, z2, z3, z4, v0, v1, v2, v3, v4⟩ := cells5 e2
    obtain ⟨q0, q1, q2, q3⟩ := cells_of e3
    by_cases he : ve = 0
    · subst he
      go_upto_region 17 with (fail)
      obtain ⟨W4, hW4⟩ : ∃ W4, W4 = ((w3.setCell ⟨w.heap.size + 1 + 1, 2, none⟩ (.int .u64 vn)).setCell ⟨B, 0, none⟩ (.int .i64 0)).setCell ⟨B, 1, none⟩ (.int .i64 (fltAt 0 tq)) := ⟨_, rfl⟩
      rw [← hW4]
      have f4 : Fr (fun k => k = w.heap.size + 1 + 1 ∨ k = B) w3 W4 := by rw [hW4]; exact (((Fr.refl (fun k => k = w.heap.size + 1 + 1 ∨ k = B) w3).set (w.heap.size + 1 + 1) 2 _ (fun _ => .inl rfl)).set B 0 _ (fun _ => .inr rfl)).set B 1 _ (fun _ => .inr rfl)
      have m0 := e0.fr f4 (by omega)
      have m1 := e1.fr f4 (by omega)
      have m2 : Blk W4 (w.heap.size + 1 + 1) 101 #[.int .i64 tn, .int .u8 0, .int .u64 vn, .slice none 0 0, .int .i64 at_] := by rw [hW4]; exact ((e2.set 2 _).other ⟨B, 0, none⟩ _ (by simp; omega)).other ⟨B, 1, none⟩ _ (by simp; omega)
      have m3 : Blk W4 B 32 #[.int .i64 0, .int .i64 (fltAt 0 tq)] := by rw [hW4]; exact ((e3.other ⟨w.heap.size + 1 + 1, 2, none⟩ _ (by simp; omega)).set 0 _).set 1 _
      have hI4 := InS.fresh HVV.out HI3.out f4 (by omega) (fun k h => by omega)
      have hF4 := Fr.trans' HF.out f4 (fun i hi h => by omega)
      have hsz4 := f4.size
      have HI4 := Lib.hid hI4
      have HF4 := Lib.hid hF4
      clear e0 e1 e2 e3 x0 x1 x2 x3 x4 y0 y1 y2 y3 y4 u0 u1 u2 u3 z0 z1 z2 z3 z4 v0 v1 v2 v3 v4 q0 q1 q2 q3 f4 hW4 hI4 hF4 HI3 HF
      obtain ⟨x0, x1, x2, x3, x4, y0, y1, y2, y3, y4⟩ := cells5 m0
      obtain ⟨u0, u1, u2, u3⟩ := cells_of m1
      obtain ⟨z0, z1, z2, z3, z4, v0, v1, v2, v3, v4⟩ := cells5 m2
      obtain ⟨q0, q1, q2, q3⟩ := cells_of m3
      go_upto_region 19 with (fail)
      go_region
      go_wp2
      obtain ⟨W9, hW9⟩ : ∃ W9, W9 = finW W4 w.heap.size (.int .i64 tn) (.int .u8 0) (.int .u64 vn) (.slice none 0 0) (.int .i64 at_) (.int .i64 0) (.int .i64 (fltAt 0 tq)) := ⟨_, rfl⟩
      have hw := finW_fr W4 w.heap.size (.int .i64 tn) (.int .u8 0) (.int .u64 vn) (.slice none 0 0) (.int .i64 at_) (.int .i64 0) (.int .i64 (fltAt 0 tq))
      have hA := finW_field m0 (.int .i64 tn) (.int .u8 0) (.int .u64 vn) (.slice none 0 0) (.int .i64 at_) (.int .i64 0) (.int .i64 (fltAt 0 tq))
      have hB := finW_fault m1 (.int .i64 tn) (.int .u8 0) (.int .u64 vn) (.slice none 0 0) (.int .i64 at_) (.int .i64 0) (.int .i64 (fltAt 0 tq))
      rw [← hW9] at hw hA hB
      unfold finW at hW9
      rw [← hW9]
      have hI9 := InS.fresh HVV.out HI4.out hw (by omega) (fun k h => by omega)
      have hF9 := Fr.trans' HF4.out hw (fun i hi h => by omega)
      have hRR := HR.out.trans (oneR_good HT.out HV.out)
      refine bodyPost_ret (results_cc rfl _ _ ⟨w.heap.size, 0, none⟩ ⟨w.heap.size + 1, 0, none⟩ _ _ rfl rfl (loadVar_field _ _ _ rfl hA.drew) (loadVar_fault _ _ _ rfl hB.drew)) rfl ?_
      rw [hRR]
      exact ⟨_, rfl, ownB_nil _ _, hI9.grew (Drew.grew ⟨1, rfl⟩), hF9.drew⟩
    · have hne : ((ve : Int) != 0) = true := by simp; omega
      have HE := Lib.hid he
      clear he
      go_upto_region 17 with (fail)
      obtain ⟨W4, hW4⟩ : ∃ W4, W4 = ((w3.setCell ⟨w.heap.size + 1 + 1, 2, none⟩ (.int .u64 vn)).setCell ⟨B, 0, none⟩ (.int .i64 ve)).setCell ⟨B, 1, none⟩ (.int .i64 (fltAt ve tq)) := ⟨_, rfl⟩
      rw [← hW4]
      have f4 : Fr (fun k => k = w.heap.size + 1 + 1 ∨ k = B) w3 W4 := by rw [hW4]; exact (((Fr.refl (fun k => k = w.heap.size + 1 + 1 ∨ k = B) w3).set (w.heap.size + 1 + 1) 2 _ (fun _ => .inl rfl)).set B 0 _ (fun _ => .inr rfl)).set B 1 _ (fun _ => .inr rfl)
      have m0 := e0.fr f4 (by omega)
      have m1 := e1.fr f4 (by omega)
      have m2 : Blk W4 (w.heap.size + 1 + 1) 101 #[.int .i64 tn, .int .u8 0, .int .u64 vn, .slice none 0 0, .int .i64 at_] := by rw [hW4]; exact ((e2.set 2 _).other ⟨B, 0, none⟩ _ (by simp; omega)).other ⟨B, 1, none⟩ _ (by simp; omega)
      have m3 : Blk W4 B 32 #[.int .i64 ve, .int .i64 (fltAt ve tq)] := by rw [hW4]; exact ((e3.other ⟨w.heap.size + 1 + 1, 2, none⟩ _ (by simp; omega)).set 0 _).set 1 _
      have hI4 := InS.fresh HVV.out HI3.out f4 (by omega) (fun k h => by omega)
      have hF4 := Fr.trans' HF.out f4 (fun i hi h => by omega)
      have hsz4 := f4.size
      have HI4 := Lib.hid hI4
      have HF4 := Lib.hid hF4
      clear e0 e1 e2 e3 x0 x1 x2 x3 x4 y0 y1 y2 y3 y4 u0 u1 u2 u3 z0 z1 z2 z3 z4 v0 v1 v2 v3 v4 q0 q1 q2 q3 f4 hW4 hI4 hF4 HI3 HF
      obtain ⟨x0, x1, x2, x3, x4, y0, y1, y2, y3, y4⟩ := cells5 m0
      obtain ⟨u0, u1, u2, u3⟩ := cells_of m1
      obtain ⟨z0, z1, z2, z3, z4, v0, v1, v2, v3, v4⟩ := cells5 m2
      obtain ⟨q0, q1, q2, q3⟩ := cells_of m3
      go_upto_region 18 with (fail)
      go_region
      go_wp2
      obtain ⟨W9, hW9⟩ : ∃ W9, W9 = finW W4 w.heap.size (.int .i64 0) (.int .u8 0) (.int .u64 0) (.slice none 0 0) (.int .i64 0) (.int .i64 ve) (.int .i64 (fltAt ve tq)) := ⟨_, rfl⟩
      have hw := finW_fr W4 w.heap.size (.int .i64 0) (.int .u8 0) (.int .u64 0) (.slice none 0 0) (.int .i64 0) (.int .i64 ve) (.int .i64 (fltAt ve tq))
      have hA := finW_field m0 (.int .i64 0) (.int .u8 0) (.int .u64 0) (.slice none 0 0) (.int .i64 0) (.int .i64 ve) (.int .i64 (fltAt ve tq))
      have hB := finW_fault m1 (.int .i64 0) (.int .u8 0) (.int .u64 0) (.slice none 0 0) (.int .i64 0) (.int .i64 ve) (.int .i64 (fltAt ve tq))
      rw [← hW9] at hw hA hB
      unfold finW at hW9
      rw [← hW9]
      have hI9 := InS.fresh HVV.out HI4.out hw (by omega) (fun k h => by omega)
      have hF9 := Fr.trans' HF4.out hw (fun i hi h => by omega)
      have hRR := HR.out.trans (oneR_err2 HT.out HV.out HE.out)
      refine bodyPost_ret (results_cc rfl _ _ ⟨w.heap.size, 0, none⟩ ⟨w.heap.size + 1, 0, none⟩ _ _ rfl rfl (loadVar_field _ _ _ rfl hA.drew) (loadVar_fault _ _ _ rfl hB.drew)) rfl ?_
      rw [hRR, fltAt_ne HE.out]
      exact ⟨_, rfl, ownB_nil _ _, hI9.grew (Drew.grew ⟨1, rfl⟩), hF9.drew⟩
  · go_wp2_with fail
    try rw [← HW2.out]
    refine (ieight_any l p tq _ HI2.out).mono ?_
    obtain ⟨vn, hvn⟩ : ∃ x, x = (fixR l tq 8).1 := ⟨_, rfl⟩
    obtain ⟨ve, hve⟩ : ∃ x, x = (fixR l tq 8).2.1 := ⟨_, rfl⟩
    obtain ⟨vq, hvq⟩ : ∃ x, x = (fixR l tq 8).2.2 := ⟨_, rfl⟩
    have hval : valR l tq 1 = (vn, [], ve, vq) := by rw [hvn, hve, hvq]; rfl
    rw [← hvn, ← hve, ← hvq]
    rintro e w3 ⟨rfl, hI3, hF3⟩
    clear hvn hve hvq
    have e0 := c0.fr hF3 n0
    have e1 := c1.fr hF3 n1
    have e2 := c2.fr hF3 n2
    have e3 := c3.fr hF3 n3
    have hsz := hF3.size
    have HI3 := Lib.hid hI3
    have HF := Lib.hid (Fr.trans HF2.out hF3)
    have HV := Lib.hid hval
    clear c0 c1 c2 c3 hI3 hF3 hval
    obtain ⟨x0, x1, x2, x3, x4, y0, y1, y2, y3, y4⟩ := cells5 e0
    obtain ⟨u0, u1, u2, u3⟩ := cells_of e1
    obtain ⟨z0, z1, z2, z3, z4, v0, v1, v2, v3, v4⟩ := cells5 e2
    obtain ⟨q0, q1, q2, q3⟩ := cells_of e3
    by_cases he : ve = 0
    · subst he
      go_upto_region 17 with (fail)
      obtain ⟨W4, hW4⟩ : ∃ W4, W4 = ((w3.setCell ⟨w.heap.size + 1 + 1, 2, none⟩ (.int .u64 vn)).setCell ⟨B, 0, none⟩ (.int .i64 0)).setCell ⟨B, 1, none⟩ (.int .i64 (fltAt 0 tq)) := ⟨_, rfl⟩
      rw [← hW4]
      have f4 : Fr (fun k => k = w.heap.size + 1 + 1 ∨ k = B) w3 W4 := by rw [hW4]; exact (((Fr.refl (fun k => k = w.heap.size + 1 + 1 ∨ k = B) w3).set (w.heap.size + 1 + 1) 2 _ (fun _ => .inl rfl)).set B 0 _ (fun _ => .inr rfl)).set B 1 _ (fun _ => .inr rfl)
      have m0 := e0.fr f4 (by omega)
      have m1 := e1.fr f4 (by omega)
      have m2 : Blk W4 (w.heap.size + 1 + 1) 101 #[.int .i64 tn, .int .u8 1, .int .u64 vn, .slice none 0 0, .int .i64 at_] := by rw [hW4]; exact ((e2.set 2 _).other ⟨B, 0, none⟩ _ (by simp; omega)).other ⟨B, 1, none⟩ _ (by simp; omega)
      have m3 : Blk W4 B 32 #[.int .i64 0, .int .i64 (fltAt 0 tq)] := by rw [hW4]; exact ((e3.other ⟨w.heap.size + 1 + 1, 2, none⟩ _ (by simp; omega)).set 0 _).set 1 _
      have hI4 := InS.fresh HVV.out HI3.out f4 (by omega) (fun k h => by omega)
      have hF4 := Fr.trans' HF.out f4 (fun i hi h => by omega)
      have hsz4 := f4.size
      have HI4 := Lib.hid hI4
      have HF4 := Lib.hid hF4
      clear e0 e1 e2 e3 x0 x1 x2 x3 x4 y0 y1 y2 y3 y4 u0 u1 u2 u3 z0 z1 z2 z3 z4 v0 v1 v2 v3 v4 q0 q1 q2 q3 f4 hW4 hI4 hF4 HI3 HF
      obtain ⟨x0, x1, x2, x3, x4, y0, y1, y2, y3, y4⟩ := cells5 m0
      obtain ⟨u0, u1, u2, u3⟩ := cells_of m1
      obtain ⟨z0, z1, z2, z3, z4, v0, v1, v2, v3, v4⟩ := cells5 m2
      obtain ⟨q0, q1, q2, q3⟩ := cells_of m3
      go_upto_region 19 with (fail)
      go_region
      go_wp2
      obtain ⟨W9, hW9⟩ : ∃ W9, W9 = finW W4 w.heap.size (.int .i64 tn) (.int .u8 1) (.int .u64 vn) (.slice none 0 0) (.int .i64 at_) (.int .i64 0) (.int .i64 (fltAt 0 tq)) := ⟨_, rfl⟩
      have hw := finW_fr W4 w.heap.size (.int .i64 tn) (.int .u8 1) (.int .u64 vn) (.slice none 0 0) (.int .i64 at_) (.int .i64 0) (.int .i64 (fltAt 0 tq))
      have hA := finW_field m0 (.int .i64 tn) (.int .u8 1) (.int .u64 vn) (.slice none 0 0) (.int .i64 at_) (.int .i64 0) (.int .i64 (fltAt 0 tq))
      have hB := finW_fault m1 (.int .i64 tn) (.int .u8 1) (.int .u64 vn) (.slice none 0 0) (.int .i64 at_) (.int .i64 0) (.int .i64 (fltAt 0 tq))
      rw [← hW9] at hw hA hB
      unfold finW at hW9
      rw [← hW9]
      have hI9 := InS.fresh HVV.out HI4.out hw (by omega) (fun k h => by omega)
      have hF9 := Fr.trans' HF4.out hw (fun i hi h => by omega)
      have hRR := HR.out.trans (oneR_good HT.out HV.out)
      refine bodyPost_ret (results_cc rfl _ _ ⟨w.heap.size, 0, none⟩ ⟨w.heap.size + 1, 0, none⟩ _ _ rfl rfl (loadVar_field _ _ _ rfl hA.drew) (loadVar_fault _ _ _ rfl hB.drew)) rfl ?_
      rw [hRR]
      exact ⟨_, rfl, ownB_nil _ _, hI9.grew (Drew.grew ⟨1, rfl⟩), hF9.drew⟩
    · have hne : ((ve : Int) != 0) = true := by simp; omega
      have HE := Lib.hid he
      clear he
      go_upto_region 17 with (fail)
      obtain ⟨W4, hW4⟩ : ∃ W4, W4 = ((w3.setCell ⟨w.heap.size + 1 + 1, 2, none⟩ (.int .u64 vn)).setCell ⟨B, 0, none⟩ (.int .i64 ve)).setCell ⟨B, 1, none⟩ (.int .i64 (fltAt ve tq)) := ⟨_, rfl⟩
      rw [← hW4]
      have f4 : Fr (fun k => k = w.heap.size + 1 + 1 ∨ k = B) w3 W4 := by rw [hW4]; exact (((Fr.refl (fun k => k = w.heap.size + 1 + 1 ∨ k = B) w3).set (w.heap.size + 1 + 1) 2 _ (fun _ => .inl rfl)).set B 0 _ (fun _ => .inr rfl)).set B 1 _ (fun _ => .inr rfl)
      have m0 := e0.fr f4 (by omega)
      have m1 := e1.fr f4 (by omega)
      have m2 : Blk W4 (w.heap.size + 1 + 1) 101 #[.int .i64 tn, .int .u8 1, .int .u64 vn, .slice none 0 0, .int .i64 at_] := by rw [hW4]; exact ((e2.set 2 _).other ⟨B, 0, none⟩ _ (by simp; omega)).other ⟨B, 1, none⟩ _ (by simp; omega)
      have m3 : Blk W4 B 32 #[.int .i64 ve, .int .i64 (fltAt ve tq)] := by rw [hW4]; exact ((e3.other ⟨w.heap.size + 1 + 1, 2, none⟩ _ (by simp; omega)).set 0 _).set 1 _
      have hI4 := InS.fresh HVV.out HI3.out f4 (by omega) (fun k h => by omega)
      have hF4 := Fr.trans' HF.out f4 (fun i hi h => by omega)
      have hsz4 := f4.size
      have HI4 := Lib.hid hI4
      have HF4 := Lib.hid hF4
      clear e0 e1 e2 e3 x0 x1 x2 x3 x4 y0 y1 y2 y3 y4 u0 u1 u2 u3 z0 z1 z2 z3 z4 v0 v1 v2 v3 v4 q0 q1 q2 q3 f4 hW4 hI4 hF4 HI3 HF
      obtain ⟨x0, x1, x2, x3, x4, y0, y1, y2, y3, y4⟩ := cells5 m0
      obtain ⟨u0, u1, u2, u3⟩ := cells_of m1
      obtain ⟨z0, z1, z2, z3, z4, v0, v1, v2, v3, v4⟩ := cells5 m2
      obtain ⟨q0, q1, q2, q3⟩ := cells_of m3
      go_upto_region 18 with (fail)
      go_region
      go_wp2
      obtain ⟨W9, hW9⟩ : ∃ W9, W9 = finW W4 w.heap.size (.int .i64 0) (.int .u8 0) (.int .u64 0) (.slice none 0 0) (.int .i64 0) (.int .i64 ve) (.int .i64 (fltAt ve tq)) := ⟨_, rfl⟩
      have hw := finW_fr W4 w.heap.size (.int .i64 0) (.int .u8 0) (.int .u64 0) (.slice none 0 0) (.int .i64 0) (.int .i64 ve) (.int .i64 (fltAt ve tq))
      have hA := finW_field m0 (.int .i64 0) (.int .u8 0) (.int .u64 0) (.slice none 0 0) (.int .i64 0) (.int .i64 ve) (.int .i64 (fltAt ve tq))
      have hB := finW_fault m1 (.int .i64 0) (.int .u8 0) (.int .u64 0) (.slice none 0 0) (.int .i64 0) (.int .i64 ve) (.int .i64 (fltAt ve tq))
      rw [← hW9] at hw hA hB
      unfold finW at hW9
      rw [← hW9]
      have hI9 := InS.fresh HVV.out HI4.out hw (by omega) (fun k h => by omega)
      have hF9 := Fr.trans' HF4.out hw (fun i hi h => by omega)
      have hRR := HR.out.trans (oneR_err2 HT.out HV.out HE.out)
      refine bodyPost_ret (results_cc rfl _ _ ⟨w.heap.size, 0, none⟩ ⟨w.heap.size + 1, 0, none⟩ _ _ rfl rfl (loadVar_field _ _ _ rfl hA.drew) (loadVar_fault _ _ _ rfl hB.drew)) rfl ?_
      rw [hRR, fltAt_ne HE.out]
      exact ⟨_, rfl, ownB_nil _ _, hI9.grew (Drew.grew ⟨1, rfl⟩), hF9.drew⟩
  · go_wp2_with fail
    try rw [← HW2.out]
    refine (ibytes_any l p tq 8192 (by omega) (by omega) hl _ HI2.out).mono ?_
    obtain ⟨bs, hbs⟩ : ∃ x, x = (bytesR l tq 8192).1 := ⟨_, rfl⟩
    obtain ⟨ve, hve⟩ : ∃ x, x = (bytesR l tq 8192).2.1 := ⟨_, rfl⟩
    obtain ⟨vq, hvq⟩ : ∃ x, x = (bytesR l tq 8192).2.2 := ⟨_, rfl⟩
    have hval : valR l tq 2 = (0, bs, ve, vq) := by rw [hbs, hve, hvq]; rfl
    rw [← hbs, ← hve, ← hvq]
    rintro e w3 ⟨vb, rfl, ho, hI3, hF3⟩
    clear hbs hve hvq
    obtain ⟨va, vc, rfl⟩ := bs_len (Sl.of_own ho)
    have hge := fun g e => (own_lt ho g e).1
    have HO := Lib.hid ho
    have HGE := Lib.hid hge
    clear ho hge
    have e0 := c0.fr hF3 n0
    have e1 := c1.fr hF3 n1
    have e2 := c2.fr hF3 n2
    have e3 := c3.fr hF3 n3
    have hsz := hF3.size
    have HI3 := Lib.hid hI3
    have HF := Lib.hid (Fr.trans HF2.out hF3)
    have HV := Lib.hid hval
    clear c0 c1 c2 c3 hI3 hF3 hval
    obtain ⟨x0, x1, x2, x3, x4, y0, y1, y2, y3, y4⟩ := cells5 e0
    obtain ⟨u0, u1, u2, u3⟩ := cells_of e1
    obtain ⟨z0, z1, z2, z3, z4, v0, v1, v2, v3, v4⟩ := cells5 e2
    obtain ⟨q0, q1, q2, q3⟩ := cells_of e3
    by_cases he : ve = 0
    · subst he
      go_upto_region 17 with (fail)
      obtain ⟨W4, hW4⟩ : ∃ W4, W4 = ((w3.setCell ⟨w.heap.size + 1 + 1, 3, none⟩ (.slice va bs.length vc)).setCell ⟨B, 0, none⟩ (.int .i64 0)).setCell ⟨B, 1, none⟩ (.int .i64 (fltAt 0 tq)) := ⟨_, rfl⟩
      rw [← hW4]
      have f4 : Fr (fun k => k = w.heap.size + 1 + 1 ∨ k = B) w3 W4 := by rw [hW4]; exact (((Fr.refl (fun k => k = w.heap.size + 1 + 1 ∨ k = B) w3).set (w.heap.size + 1 + 1) 3 _ (fun _ => .inl rfl)).set B 0 _ (fun _ => .inr rfl)).set B 1 _ (fun _ => .inr rfl)
      have m0 := e0.fr f4 (by omega)
      have m1 := e1.fr f4 (by omega)
      have m2 : Blk W4 (w.heap.size + 1 + 1) 101 #[.int .i64 tn, .int .u8 2, .int .u64 0, .slice va bs.length vc, .int .i64 at_] := by rw [hW4]; exact ((e2.set 3 _).other ⟨B, 0, none⟩ _ (by simp; omega)).other ⟨B, 1, none⟩ _ (by simp; omega)
      have m3 : Blk W4 B 32 #[.int .i64 0, .int .i64 (fltAt 0 tq)] := by rw [hW4]; exact ((e3.other ⟨w.heap.size + 1 + 1, 3, none⟩ _ (by simp; omega)).set 0 _).set 1 _
      have hI4 := InS.fresh HVV.out HI3.out f4 (by omega) (fun k h => by omega)
      have hF4 := Fr.trans' HF.out f4 (fun i hi h => by omega)
      have ho4 := own_fr HO.out f4 (fun g hg h => by have := HGE.out g hg; omega)
      have HO4 := Lib.hid ho4
      clear ho4
      have hsz4 := f4.size
      have HI4 := Lib.hid hI4
      have HF4 := Lib.hid hF4
      clear e0 e1 e2 e3 x0 x1 x2 x3 x4 y0 y1 y2 y3 y4 u0 u1 u2 u3 z0 z1 z2 z3 z4 v0 v1 v2 v3 v4 q0 q1 q2 q3 f4 hW4 hI4 hF4 HI3 HF
      obtain ⟨x0, x1, x2, x3, x4, y0, y1, y2, y3, y4⟩ := cells5 m0
      obtain ⟨u0, u1, u2, u3⟩ := cells_of m1
      obtain ⟨z0, z1, z2, z3, z4, v0, v1, v2, v3, v4⟩ := cells5 m2
      obtain ⟨q0, q1, q2, q3⟩ := cells_of m3
      go_upto_region 19 with (fail)
      go_region
      go_wp2
      obtain ⟨W9, hW9⟩ : ∃ W9, W9 = finW W4 w.heap.size (.int .i64 tn) (.int .u8 2) (.int .u64 0) (.slice va bs.length vc) (.int .i64 at_) (.int .i64 0) (.int .i64 (fltAt 0 tq)) := ⟨_, rfl⟩
      have hw := finW_fr W4 w.heap.size (.int .i64 tn) (.int .u8 2) (.int .u64 0) (.slice va bs.length vc) (.int .i64 at_) (.int .i64 0) (.int .i64 (fltAt 0 tq))
      have hA := finW_field m0 (.int .i64 tn) (.int .u8 2) (.int .u64 0) (.slice va bs.length vc) (.int .i64 at_) (.int .i64 0) (.int .i64 (fltAt 0 tq))
      have hB := finW_fault m1 (.int .i64 tn) (.int .u8 2) (.int .u64 0) (.slice va bs.length vc) (.int .i64 at_) (.int .i64 0) (.int .i64 (fltAt 0 tq))
      rw [← hW9] at hw hA hB
      unfold finW at hW9
      rw [← hW9]
      have hI9 := InS.fresh HVV.out HI4.out hw (by omega) (fun k h => by omega)
      have hF9 := Fr.trans' HF4.out hw (fun i hi h => by omega)
      have hRR := HR.out.trans (oneR_good HT.out HV.out)
      have ho9 := own_fr HO4.out hw (fun g hg h => by have := HGE.out g hg; omega)
      refine bodyPost_ret (results_cc rfl _ _ ⟨w.heap.size, 0, none⟩ ⟨w.heap.size + 1, 0, none⟩ _ _ rfl rfl (loadVar_field _ _ _ rfl hA.drew) (loadVar_fault _ _ _ rfl hB.drew)) rfl ?_
      rw [hRR]
      exact ⟨_, rfl, (own_mono (own_grew ho9 (Drew.grew ⟨1, rfl⟩)) (by omega)), hI9.grew (Drew.grew ⟨1, rfl⟩), hF9.drew⟩
    · have hne : ((ve : Int) != 0) = true := by simp; omega
      have HE := Lib.hid he
      clear he
      go_upto_region 17 with (fail)
      obtain ⟨W4, hW4⟩ : ∃ W4, W4 = ((w3.setCell ⟨w.heap.size + 1 + 1, 3, none⟩ (.slice va bs.length vc)).setCell ⟨B, 0, none⟩ (.int .i64 ve)).setCell ⟨B, 1, none⟩ (.int .i64 (fltAt ve tq)) := ⟨_, rfl⟩
      rw [← hW4]
      have f4 : Fr (fun k => k = w.heap.size + 1 + 1 ∨ k = B) w3 W4 := by rw [hW4]; exact (((Fr.refl (fun k => k = w.heap.size + 1 + 1 ∨ k = B) w3).set (w.heap.size + 1 + 1) 3 _ (fun _ => .inl rfl)).set B 0 _ (fun _ => .inr rfl)).set B 1 _ (fun _ => .inr rfl)
      have m0 := e0.fr f4 (by omega)
      have m1 := e1.fr f4 (by omega)
      have m2 : Blk W4 (w.heap.size + 1 + 1) 101 #[.int .i64 tn, .int .u8 2, .int .u64 0, .slice va bs.length vc, .int .i64 at_] := by rw [hW4]; exact ((e2.set 3 _).other ⟨B, 0, none⟩ _ (by simp; omega)).other ⟨B, 1, none⟩ _ (by simp; omega)
      have m3 : Blk W4 B 32 #[.int .i64 ve, .int .i64 (fltAt ve tq)] := by rw [hW4]; exact ((e3.other ⟨w.heap.size + 1 + 1, 3, none⟩ _ (by simp; omega)).set 0 _).set 1 _
      have hI4 := InS.fresh HVV.out HI3.out f4 (by omega) (fun k h => by omega)
      have hF4 := Fr.trans' HF.out f4 (fun i hi h => by omega)
      have ho4 := own_fr HO.out f4 (fun g hg h => by have := HGE.out g hg; omega)
      have HO4 := Lib.hid ho4
      clear ho4
      have hsz4 := f4.size
      have HI4 := Lib.hid hI4
      have HF4 := Lib.hid hF4
      clear e0 e1 e2 e3 x0 x1 x2 x3 x4 y0 y1 y2 y3 y4 u0 u1 u2 u3 z0 z1 z2 z3 z4 v0 v1 v2 v3 v4 q0 q1 q2 q3 f4 hW4 hI4 hF4 HI3 HF
      obtain ⟨x0, x1, x2, x3, x4, y0, y1, y2, y3, y4⟩ := cells5 m0
      obtain ⟨u0, u1, u2, u3⟩ := cells_of m1
      obtain ⟨z0, z1, z2, z3, z4, v0, v1, v2, v3, v4⟩ := cells5 m2
      obtain ⟨q0, q1, q2, q3⟩ := cells_of m3
      go_upto_region 18 with (fail)
      go_region
      go_wp2
      obtain ⟨W9, hW9⟩ : ∃ W9, W9 = finW W4 w.heap.size (.int .i64 0) (.int .u8 0) (.int .u64 0) (.slice none 0 0) (.int .i64 0) (.int .i64 ve) (.int .i64 (fltAt ve tq)) := ⟨_, rfl⟩
      have hw := finW_fr W4 w.heap.size (.int .i64 0) (.int .u8 0) (.int .u64 0) (.slice none 0 0) (.int .i64 0) (.int .i64 ve) (.int .i64 (fltAt ve tq))
      have hA := finW_field m0 (.int .i64 0) (.int .u8 0) (.int .u64 0) (.slice none 0 0) (.int .i64 0) (.int .i64 ve) (.int .i64 (fltAt ve tq))
      have hB := finW_fault m1 (.int .i64 0) (.int .u8 0) (.int .u64 0) (.slice none 0 0) (.int .i64 0) (.int .i64 ve) (.int .i64 (fltAt ve tq))
      rw [← hW9] at hw hA hB
      unfold finW at hW9
      rw [← hW9]
      have hI9 := InS.fresh HVV.out HI4.out hw (by omega) (fun k h => by omega)
      have hF9 := Fr.trans' HF4.out hw (fun i hi h => by omega)
      have hRR := HR.out.trans (oneR_err2 HT.out HV.out HE.out)
      refine bodyPost_ret (results_cc rfl _ _ ⟨w.heap.size, 0, none⟩ ⟨w.heap.size + 1, 0, none⟩ _ _ rfl rfl (loadVar_field _ _ _ rfl hA.drew) (loadVar_fault _ _ _ rfl hB.drew)) rfl ?_
      rw [hRR, fltAt_ne HE.out]
      exact ⟨_, rfl, ownB_nil _ _, hI9.grew (Drew.grew ⟨1, rfl⟩), hF9.drew⟩
  · go_wp2_with fail
    try rw [← HW2.out]
    refine (ifour_any l p tq _ HI2.out).mono ?_
    obtain ⟨vn, hvn⟩ : ∃ x, x = (fixR l tq 4).1 := ⟨_, rfl⟩
    obtain ⟨ve, hve⟩ : ∃ x, x = (fixR l tq 4).2.1 := ⟨_, rfl⟩
    obtain ⟨vq, hvq⟩ : ∃ x, x = (fixR l tq 4).2.2 := ⟨_, rfl⟩
    have hval : valR l tq 5 = (vn, [], ve, vq) := by rw [hvn, hve, hvq]; rfl
    have hlt : vn < 4294967296 := by rw [hvn, fixR_tread]; have := tread_lt (l.drop tq) 4; simp only; omega
    have hwr : IntKind.u64.wrap (vn : Int) = (vn : Int) := by rw [IntKind.wrap_u64]; omega
    rw [← hvn, ← hve, ← hvq]
    rintro e w3 ⟨rfl, hI3, hF3⟩
    clear hvn hve hvq
    have e0 := c0.fr hF3 n0
    have e1 := c1.fr hF3 n1
    have e2 := c2.fr hF3 n2
    have e3 := c3.fr hF3 n3
    have hsz := hF3.size
    have HI3 := Lib.hid hI3
    have HF := Lib.hid (Fr.trans HF2.out hF3)
    have HV := Lib.hid hval
    clear c0 c1 c2 c3 hI3 hF3 hval
    obtain ⟨x0, x1, x2, x3, x4, y0, y1, y2, y3, y4⟩ := cells5 e0
    obtain ⟨u0, u1, u2, u3⟩ := cells_of e1
    obtain ⟨z0, z1, z2, z3, z4, v0, v1, v2, v3, v4⟩ := cells5 e2
    obtain ⟨q0, q1, q2, q3⟩ := cells_of e3
    by_cases he : ve = 0
    · subst he
      go_upto_region 17 with (fail)
      obtain ⟨W4, hW4⟩ : ∃ W4, W4 = ((w3.setCell ⟨B, 0, none⟩ (.int .i64 0)).setCell ⟨B, 1, none⟩ (.int .i64 (fltAt 0 tq))).setCell ⟨w.heap.size + 1 + 1, 2, none⟩ (.int .u64 vn) := ⟨_, rfl⟩
      try rw [hwr]
      rw [← hW4]
      have f4 : Fr (fun k => k = w.heap.size + 1 + 1 ∨ k = B) w3 W4 := by rw [hW4]; exact (((Fr.refl (fun k => k = w.heap.size + 1 + 1 ∨ k = B) w3).set B 0 _ (fun _ => .inr rfl)).set B 1 _ (fun _ => .inr rfl)).set (w.heap.size + 1 + 1) 2 _ (fun _ => .inl rfl)
      have m0 := e0.fr f4 (by omega)
      have m1 := e1.fr f4 (by omega)
      have m2 : Blk W4 (w.heap.size + 1 + 1) 101 #[.int .i64 tn, .int .u8 5, .int .u64 vn, .slice none 0 0, .int .i64 at_] := by rw [hW4]; exact ((e2.other ⟨B, 0, none⟩ _ (by simp; omega)).other ⟨B, 1, none⟩ _ (by simp; omega)).set 2 _
      have m3 : Blk W4 B 32 #[.int .i64 0, .int .i64 (fltAt 0 tq)] := by rw [hW4]; exact ((e3.set 0 _).set 1 _).other ⟨w.heap.size + 1 + 1, 2, none⟩ _ (by simp; omega)
      have hI4 := InS.fresh HVV.out HI3.out f4 (by omega) (fun k h => by omega)
      have hF4 := Fr.trans' HF.out f4 (fun i hi h => by omega)
      have hsz4 := f4.size
      have HI4 := Lib.hid hI4
      have HF4 := Lib.hid hF4
      clear e0 e1 e2 e3 x0 x1 x2 x3 x4 y0 y1 y2 y3 y4 u0 u1 u2 u3 z0 z1 z2 z3 z4 v0 v1 v2 v3 v4 q0 q1 q2 q3 f4 hW4 hI4 hF4 HI3 HF
      obtain ⟨x0, x1, x2, x3, x4, y0, y1, y2, y3, y4⟩ := cells5 m0
      obtain ⟨u0, u1, u2, u3⟩ := cells_of m1
      obtain ⟨z0, z1, z2, z3, z4, v0, v1, v2, v3, v4⟩ := cells5 m2
      obtain ⟨q0, q1, q2, q3⟩ := cells_of m3
      go_upto_region 19 with (fail)
      go_region
      go_wp2
      obtain ⟨W9, hW9⟩ : ∃ W9, W9 = finW W4 w.heap.size (.int .i64 tn) (.int .u8 5) (.int .u64 vn) (.slice none 0 0) (.int .i64 at_) (.int .i64 0) (.int .i64 (fltAt 0 tq)) := ⟨_, rfl⟩
      have hw := finW_fr W4 w.heap.size (.int .i64 tn) (.int .u8 5) (.int .u64 vn) (.slice none 0 0) (.int .i64 at_) (.int .i64 0) (.int .i64 (fltAt 0 tq))
      have hA := finW_field m0 (.int .i64 tn) (.int .u8 5) (.int .u64 vn) (.slice none 0 0) (.int .i64 at_) (.int .i64 0) (.int .i64 (fltAt 0 tq))
      have hB := finW_fault m1 (.int .i64 tn) (.int .u8 5) (.int .u64 vn) (.slice none 0 0) (.int .i64 at_) (.int .i64 0) (.int .i64 (fltAt 0 tq))
      rw [← hW9] at hw hA hB
      unfold finW at hW9
      rw [← hW9]
      have hI9 := InS.fresh HVV.out HI4.out hw (by omega) (fun k h => by omega)
      have hF9 := Fr.trans' HF4.out hw (fun i hi h => by omega)
      have hRR := HR.out.trans (oneR_good HT.out HV.out)
      refine bodyPost_ret (results_cc rfl _ _ ⟨w.heap.size, 0, none⟩ ⟨w.heap.size + 1, 0, none⟩ _ _ rfl rfl (loadVar_field _ _ _ rfl hA.drew) (loadVar_fault _ _ _ rfl hB.drew)) rfl ?_
      rw [hRR]
      exact ⟨_, rfl, ownB_nil _ _, hI9.grew (Drew.grew ⟨1, rfl⟩), hF9.drew⟩
    · have hne : ((ve : Int) != 0) = true := by simp; omega
      have HE := Lib.hid he
      clear he
      go_upto_region 17 with (fail)
      obtain ⟨W4, hW4⟩ : ∃ W4, W4 = ((w3.setCell ⟨B, 0, none⟩ (.int .i64 ve)).setCell ⟨B, 1, none⟩ (.int .i64 (fltAt ve tq))).setCell ⟨w.heap.size + 1 + 1, 2, none⟩ (.int .u64 vn) := ⟨_, rfl⟩
      try rw [hwr]
      rw [← hW4]
      have f4 : Fr (fun k => k = w.heap.size + 1 + 1 ∨ k = B) w3 W4 := by rw [hW4]; exact (((Fr.refl (fun k => k = w.heap.size + 1 + 1 ∨ k = B) w3).set B 0 _ (fun _ => .inr rfl)).set B 1 _ (fun _ => .inr rfl)).set (w.heap.size + 1 + 1) 2 _ (fun _ => .inl rfl)
      have m0 := e0.fr f4 (by omega)
      have m1 := e1.fr f4 (by omega)
      have m2 : Blk W4 (w.heap.size + 1 + 1) 101 #[.int .i64 tn, .int .u8 5, .int .u64 vn, .slice none 0 0, .int .i64 at_] := by rw [hW4]; exact ((e2.other ⟨B, 0, none⟩ _ (by simp; omega)).other ⟨B, 1, none⟩ _ (by simp; omega)).set 2 _
      have m3 : Blk W4 B 32 #[.int .i64 ve, .int .i64 (fltAt ve tq)] := by rw [hW4]; exact ((e3.set 0 _).set 1 _).other ⟨w.heap.size + 1 + 1, 2, none⟩ _ (by simp; omega)
      have hI4 := InS.fresh HVV.out HI3.out f4 (by omega) (fun k h => by omega)
      have hF4 := Fr.trans' HF.out f4 (fun i hi h => by omega)
      have hsz4 := f4.size
      have HI4 := Lib.hid hI4
      have HF4 := Lib.hid hF4
      clear e0 e1 e2 e3 x0 x1 x2 x3 x4 y0 y1 y2 y3 y4 u0 u1 u2 u3 z0 z1 z2 z3 z4 v0 v1 v2 v3 v4 q0 q1 q2 q3 f4 hW4 hI4 hF4 HI3 HF
      obtain ⟨x0, x1, x2, x3, x4, y0, y1, y2, y3, y4⟩ := cells5 m0
      obtain ⟨u0, u1, u2, u3⟩ := cells_of m1
      obtain ⟨z0, z1, z2, z3, z4, v0, v1, v2, v3, v4⟩ := cells5 m2
      obtain ⟨q0, q1, q2, q3⟩ := cells_of m3
      go_upto_region 18 with (fail)
      go_region
      go_wp2
      obtain ⟨W9, hW9⟩ : ∃ W9, W9 = finW W4 w.heap.size (.int .i64 0) (.int .u8 0) (.int .u64 0) (.slice none 0 0) (.int .i64 0) (.int .i64 ve) (.int .i64 (fltAt ve tq)) := ⟨_, rfl⟩
      have hw := finW_fr W4 w.heap.size (.int .i64 0) (.int .u8 0) (.int .u64 0) (.slice none 0 0) (.int .i64 0) (.int .i64 ve) (.int .i64 (fltAt ve tq))
      have hA := finW_field m0 (.int .i64 0) (.int .u8 0) (.int .u64 0) (.slice none 0 0) (.int .i64 0) (.int .i64 ve) (.int .i64 (fltAt ve tq))
      have hB := finW_fault m1 (.int .i64 0) (.int .u8 0) (.int .u64 0) (.slice none 0 0) (.int .i64 0) (.int .i64 ve) (.int .i64 (fltAt ve tq))
      rw [← hW9] at hw hA hB
      unfold finW at hW9
      rw [← hW9]
      have hI9 := InS.fresh HVV.out HI4.out hw (by omega) (fun k h => by omega)
      have hF9 := Fr.trans' HF4.out hw (fun i hi h => by omega)
      have hRR := HR.out.trans (oneR_err2 HT.out HV.out HE.out)
      refine bodyPost_ret (results_cc rfl _ _ ⟨w.heap.size, 0, none⟩ ⟨w.heap.size + 1, 0, none⟩ _ _ rfl rfl (loadVar_field _ _ _ rfl hA.drew) (loadVar_fault _ _ _ rfl hB.drew)) rfl ?_
      rw [hRR, fltAt_ne HE.out]
      exact ⟨_, rfl, ownB_nil _ _, hI9.grew (Drew.grew ⟨1, rfl⟩), hF9.drew⟩
theorem skone_any {K : Value → Prop} (l : List UInt8) (p at_ : Nat) (hl : l.length ≤ 1000000000) (w : World) (h : InI K w p l at_) :
    Calls Tryz.prog 132 #[.pointer (some ⟨p, 0, none⟩)] w fun e w' => ∃ v, e = .returned (.tuple #[fldA (oneR l at_).1 v, faultV (oneR l at_).2.1 (oneR l at_).2.2.1]) ∧ OwnB w' w.heap.size v (fB (oneR l at_).1) ∧ InI K w' p l (oneR l at_).2.2.2 ∧ Fr (· = p) w w' := by
  obtain ⟨vv, hk, hb, hv⟩ := h.fix
  refine (skone_v l p at_ vv hl w hb hv).mono ?_
  rintro e w' ⟨v, h1, h2, h3, h4⟩
  exact ⟨v, h1, h2, h3.loose hk, h4⟩
end Go.Proofs.YtbjoohafgkodcaaGreat
namespace Go.Proofs.YtbjoohafgkodcaaGreat
open Go Go.RowKit Go.Shelf
attribute [local go_sem] Oper.semAt_some

/-- a row of the call's own of fields, whose bytes lie anywhere -/
abbrev OwnF (W : World) (base : Nat) (v : Value) (ps : List FFV) : Prop := W.ownsRow base 101 5 v ps.length (ps.flatMap ffv)
theorem wpList_pushFo {W : World} {ops : Array Oper} {rest : List Oper} {o : Oper} {a : Act} {Q : Exit → Act → World → Prop} (hgd : o.guard = none) (s x : Operand)
    (ho : o.op = .call { callee := .builtin .append, args := #[s, x], argTypes := #[95, 95] })
    (base : Nat) (v : Value) (ps : List FFV) (hs : a.eval s = v) (hown : OwnF W base v ps) (xv : Value) (hx : a.eval x = xv) (p : FFV) (hsl : Sl W xv 1 5 (ffv p)) {l : List UInt8} (hp : Bs W p.2 l)
    (hlen : ps.length + 1 ≤ 1000000000) (hbase : base ≤ W.heap.size)
    (h : ∀ v' w', OwnF w' base v' (ps ++ [p]) → Below base W w' → W.grownBy w' v.ownBlock → wpList Tryz.prog ops Q rest (a.put o.dst v') w') : wpList Tryz.prog ops Q (o :: rest) a W := by
  obtain ⟨i0, hi, hz0, hz1, hz2⟩ := info_parts info_field
  exact wpList_app hgd s x 95 ho base 101 i0 (.agg #[.int .i64 0, .int .u8 0, .int .u64 0, .slice none 0 0, .int .i64 0]) 5 56 Tryz.underlying95 hi hz0 hz1 hz2 rfl (by decide) v ps.length _ hs hown xv 1 (ffv p) hx hsl (ffv_one p hp) (by unfold maxLen; omega) (by omega) hbase
    fun v' w' h1 h2 => h v' w' (by rw [OwnF, List.length_append, List.flatMap_append]; simpa using h1) (grownBy_below h2 hown hbase) h2

end Go.Proofs.YtbjoohafgkodcaaGreat
namespace Go.Proofs.YtbjoohafgkodcaaGreat
open Go Go.RowKit Go.Shelf
attribute [local go_sem] Oper.semAt_some

/-- what is yielded: a place, and the payload's slice value -/
abbrev MkF := Nat × Value
def encF (l : List UInt8) (x : MkF) : Array Value := #[fldA (oneR l x.1).1 x.2, faultV (oneR l x.1).2.1 (oneR l x.1).2.2.1]
/-- the place behind those -/
def nextF (l : List UInt8) (pre : List MkF) : Nat := (pre.getLast?.map fun x => (oneR l x.1).2.2.2).getD 0
theorem nextF_nil (l : List UInt8) : nextF l [] = 0 := rfl
theorem nextF_snoc (l : List UInt8) (pre : List MkF) (x : MkF) : nextF l (pre ++ [x]) = (oneR l x.1).2.2.2 := by simp [nextF]
def goodF (l : List UInt8) (pre : List MkF) : Prop := ∀ x ∈ pre, (oneR l x.1).2.1 = 0
def OkF (l : List UInt8) (n₀ : Nat) (pre : List MkF) (x : MkF) (W : World) : Prop := x.1 < l.length ∧ x.1 = nextF l pre ∧ PayV W n₀ x.2 (fB (oneR l x.1).1)
/-- types that a round leaves alone -/
def SkT (t : TypeId) : Prop := t = 204 ∨ t = 5 ∨ t = 22 ∨ t = 32
instance (t : TypeId) : Decidable (SkT t) := by unfold SkT; infer_instance

theorem skeach_any (a : Option Addr) (n c : Nat) (w : World) : Calls Tryz.prog 112 #[.slice a n c] w fun e w' => e = .returned (.func (.func 129) #[] #[.pointer (some ⟨w.heap.size, 0, none⟩)]) ∧ w' = w.alloc (.cells #[.slice a n c] 22) := by
  go_enter Tryz.func112, Tryz.ntmps112
  go_wp2
  go_ret
  exact ⟨rfl, rfl⟩

set_option maxRecDepth 100000 in
set_option maxHeartbeats 2000000 in
theorem skip_iter (l : List UInt8) (v : Value) (Bn n₀ : Nat) (w : World) (hn : n₀ ≤ w.heap.size) (hc : Blk w Bn 22 #[v]) (hs : Bs w v l) (hlen : l.length ≤ 1000000000) :
    IterW Tryz.prog 129 #[.pointer (some ⟨Bn, 0, none⟩)] (encF l) (Tch (· = 204) n₀) (KeepT SkT) (OkF l n₀) (fun xs => l.length ≤ nextF l xs ∨ ¬ goodF l xs) (fun _ => True) w := by
  intro lp J Jx W hW hJ hJx hY h0
  have hcW := hc.grew hW
  have hbW := hs.grew hW
  have c0 := hcW.cell 0
  simp only [List.getElem?_toArray, List.getElem?_cons_zero] at c0
  obtain ⟨a, cap, rfl, h1, h2, -, -⟩ := hbW.open
  refine callsIn_of_wp Tryz.func129 rfl trivial ?_ rfl
  simp only [Tryz.ntmps129, List.size_toArray, List.length_cons, List.length_nil, Nat.reduceAdd, Nat.reduceSub, Array.replicate_succ, Array.replicate_zero, List.push_toArray, List.append_toArray, List.nil_append, List.cons_append]
  refine wpIn_scope_wide ?_
  gi_wp2_with fail
  refine (callsIn_wide.2 (inew_any l _ _ hbW (by omega))).mono ?_
  rintro e w1 ⟨p, v0, rfl, hp, hI, ho, g1⟩
  have hJ1 := hJ _ _ _ h0 (Tch.of_grew g1 (by have := hW.size; omega))
  have hn1 : n₀ ≤ w1.heap.size := by have := hW.size; have := g1.size; omega
  have hn2 : n₀ ≤ W.heap.size := by have := hW.size; omega
  have HO := Lib.hid ho
  have G1 := Lib.hid g1
  clear hcW hbW c0 h0 ho g1
  gi_wp2
  refine wpIn_label ?_
  gi_wp2
  gi_loopw [8] (fun _ wr => ∃ (k : Nat) (pre : List MkF), k = nextF l pre ∧ k ≤ l.length ∧ goodF l pre ∧ J pre wr ∧ InI (· = v0) wr p l k ∧ OwnB wr W.heap.size v0 l ∧ w1.heap.size ≤ wr.heap.size) (fun _ wr => l.length - offOf wr p)
  case atStart => exact ⟨0, [], rfl, Nat.zero_le _, (fun x h => by cases h), hJ1, hI, HO.out, Nat.le_refl _⟩
  case round =>
    obtain ⟨k, pre, hkn, hkl, hgd, hJr, hIr, hor, hzr⟩ := hrel
    have HOFF := Lib.hid (offOf_in hIr)
    have HKN := Lib.hid hkn
    clear hkn
    gi_wp2_with fail
    refine (callsIn_wide.2 (left_any l p k _ hIr)).mono ?_
    rintro e w2 ⟨rfl, g2⟩
    have hg2 := g2.grew
    have hI2 := hIr.grew hg2
    have hJ2 := hJ _ _ _ hJr (Tch.of_grew hg2 (by omega))
    have ho2 := own_grew hor hg2
    have hz2 := hg2.size
    clear hIr hJr hor
    by_cases hlt : k < l.length
    · gi_wp2_with fail
      refine (callsIn_wide.2 (skone_any l p k hlen _ hI2)).mono ?_
      obtain ⟨X, hX⟩ : ∃ X, X = oneR l k := ⟨_, rfl⟩
      rw [← hX]
      rintro e w3 ⟨pv, rfl, hpo, hI3, hF3⟩
      have hp1 := PayV.of_own hpo
      obtain ⟨a1, n1, c1, rfl, hn1'⟩ := hp1.shape
      have ho3 := own_fr ho2 hF3 (fun g hg e => blk_ne_row hI2.choose_spec.1 ho2 (by decide) (by rw [hg, e]))
      have g4 : Grew w3 ((w3.alloc (.cells #[.int .i64 X.1.1, .int .u8 (X.1.2.1 : Nat), .int .u64 (X.1.2.2.1 : Nat), .slice a1 n1 c1, .int .i64 X.1.2.2.2.2] 101)).alloc (.cells #[.int .i64 (X.2.1 : Nat), .int .i64 (X.2.2.1 : Nat)] 32)) := ((Below.refl _ _).alloc (Nat.le_refl _) _).alloc (by simp) _
      have hz3 := hF3.size
      have hJ4 := hJ _ _ _ (hJ _ _ _ hJ2 (Tch.of_fr hF3 hI2.choose_spec.1 rfl (by omega))) (Tch.of_grew g4 (by omega))
      have hok : OkF l n₀ pre (k, .slice a1 n1 c1) _ := ⟨hlt, HKN.out, by show PayV _ _ _ (fB (oneR l k).1); rw [← hX]; exact (hp1.grew g4).mono (by omega)⟩
      obtain ⟨fn, tmps, assign, body, hy, hR⟩ := hY _ _ _ hJ4 hok
      simp only [encF, ← hX] at hy
      have HX := Lib.hid hX
      have hI4 := hI3.grew g4
      have ho4 := own_grew ho3 g4
      have hz4 := g4.size
      have f4 : Blk ((w3.alloc (.cells #[.int .i64 X.1.1, .int .u8 (X.1.2.1 : Nat), .int .u64 (X.1.2.2.1 : Nat), .slice a1 n1 c1, .int .i64 X.1.2.2.2.2] 101)).alloc (.cells #[.int .i64 (X.2.1 : Nat), .int .i64 (X.2.2.1 : Nat)] 32)) (w3.heap.size + 1) 32 #[.int .i64 (X.2.1 : Nat), .int .i64 (X.2.2.1 : Nat)] := Blk.at (by simp)
      clear hX hJ hJx hY hok hJ2 hI3 ho3 hpo hp1 hI2 ho2
      gi_wp2_with fail
      refine hR.mono ?_
      rintro e w5 (⟨rfl, hJ5, hk5⟩ | ⟨rfl, hJx5⟩)
      · have f5 := hk5.blk f4 (.inr (.inr (.inr rfl)))
        have s0 := f5.cell 0
        simp only [List.getElem?_toArray, List.getElem?_cons_zero] at s0
        have ho5 := hk5.own ho4 (.inr (.inl rfl))
        obtain ⟨v9, hb4, hb4', hle, e9⟩ := id hI4
        rw [e9] at hb4
        have hI5 : InI (· = v0) w5 p l X.2.2.2 := ⟨_, hk5.blk hb4 (.inl rfl), Sl.of_own ho5, hle, rfl⟩
        have hz5 := hk5.1
        have hof5 := offOf_in hI5
        clear hy hR f4 f5 hI4 ho4 hb4 hb4' e9
        by_cases he : X.2.1 = 0
        · have ho := oneR_ok l k hkl (by rw [← HX.out]; exact he)
          rw [← HX.out] at ho
          have h3 := ho.2.2.1
          have HE := Lib.hid he
          rw [he] at s0
          replace s0 : w5.cell? ⟨w3.heap.size + 1, 0, none⟩ = some (.int .i64 0) := s0
          clear ho he
          gi_wp2
          refine ⟨⟨X.2.2.2, pre ++ [(k, .slice a1 n1 c1)], by rw [nextF_snoc]; simp only [← HX.out], hle, ?_, hJ5, hI5, ho5, by omega⟩, ?_⟩
          · intro x hx
            rcases List.mem_append.1 hx with hx | hx
            · exact hgd x hx
            · obtain rfl := List.mem_singleton.1 hx
              simp only [← HX.out]; exact HE.out
          · rw [hof5, HOFF.out]; omega
        · have hne : ((X.2.1 : Int) != 0) = true := by simp; omega
          have HE := Lib.hid he
          clear he hof5
          gi_wp2
          rw [Exit.noGoto_normal]
          go_end0
          exact ⟨⟨_, rfl⟩, .inl ⟨_, .inr (fun h => HE.out (by have := h (k, .slice a1 n1 c1) (by simp); simpa only [← HX.out] using this)), hJ5⟩⟩
      · clear hy hR
        gi_wp2
        rw [Exit.noGoto_normal]
        go_end0
        exact ⟨⟨_, rfl⟩, .inr ⟨_, trivial, hJx5⟩⟩
    · obtain rfl : k = l.length := by omega
      gi_wp2
      rw [Exit.noGoto_normal]
      go_end0
      exact ⟨⟨_, rfl⟩, .inl ⟨pre, .inl (by rw [← HKN.out]; exact Nat.le_refl _), hJ2⟩⟩
end Go.Proofs.YtbjoohafgkodcaaGreat
namespace Go.Proofs.YtbjoohafgkodcaaGreat
open Go Go.RowKit Go.Shelf
attribute [local go_sem] Oper.semAt_some

/-- what the rounds leave: block w.heap.size: the result; + 1: the fault; + 2: the row -/
def FieldsI (l : List UInt8) (w : World) (pre : List MkF) (W : World) : Prop := ∃ (v : Value) (ps : List FFV),
  Blk W w.heap.size 95 #[.slice none 0 0] ∧ Blk W (w.heap.size + 1) 32 #[.int .i64 0, .int .i64 0] ∧ Blk W (w.heap.size + 1 + 1) 95 #[v] ∧ FieldsV W w.heap.size v ps ∧ Grew w W ∧
  goodF l pre ∧ nextF l pre ≤ l.length ∧ ps.length ≤ nextF l pre ∧ RowKit.Hid (fieldsAt l 0 = joinF (ps.map (·.1)) (fieldsAt l (nextF l pre)))
def FieldsX (l : List UInt8) (w : World) (c : Code) (_pre : List MkF) (W : World) : Prop := c = .ret ∧ ∃ e at_ : Nat,
  Blk W w.heap.size 95 #[.slice none 0 0] ∧ Blk W (w.heap.size + 1) 32 #[.int .i64 e, .int .i64 at_] ∧ Grew w W ∧ RowKit.Hid (fieldsAt l 0 = ([], e, at_))
theorem FieldsI.tch {l : List UInt8} {w : World} {pre : List MkF} {A B : World} (h : FieldsI l w pre A) (e : Tch (· = 204) w.heap.size A B) : FieldsI l w pre B := by
  obtain ⟨v, ps, h1, h2, h3, h4, h5, h6⟩ := h
  exact ⟨v, ps, e.blk h1 (by decide), e.blk h2 (by decide), e.blk h3 (by decide), h4.tch e (by decide) (by decide), Below.trans h5 e.below, h6⟩
theorem FieldsI.ck {l : List UInt8} {w : World} {pre : List MkF} {n : Nat} {A B : World} (h : FieldsI l w pre A) (e : CK n A B) (hn : w.heap.size ≤ n) : FieldsI l w pre B := by
  obtain ⟨v, ps, h1, h2, h3, h4, h5, h6⟩ := h
  exact ⟨v, ps, e.blk h1, e.blk h2, e.blk h3, h4.ck e, e.below h5 hn, h6⟩
theorem FieldsX.tch {l : List UInt8} {w : World} {c : Code} {pre : List MkF} {A B : World} (h : FieldsX l w c pre A) (e : Tch (· = 204) w.heap.size A B) : FieldsX l w c pre B := by
  obtain ⟨hc, x, y, h1, h2, h5, h6⟩ := h
  exact ⟨hc, x, y, e.blk h1 (by decide), e.blk h2 (by decide), Below.trans h5 e.below, h6⟩
theorem FieldsX.ck {l : List UInt8} {w : World} {c : Code} {pre : List MkF} {n : Nat} {A B : World} (h : FieldsX l w c pre A) (e : CK n A B) (hn : w.heap.size ≤ n) : FieldsX l w c pre B := by
  obtain ⟨hc, x, y, h1, h2, h5, h6⟩ := h
  exact ⟨hc, x, y, e.blk h1, e.blk h2, e.below h5 hn, h6⟩
theorem loadVar_flds (w : World) (b : Nat) (v : Value) (h : Blk w b 95 #[v]) : (loadVar 95 ⟨b, 0, none⟩).run Tryz.prog w = .ok v w := by
  have := h.cell 0
  simp at this
  unfold loadVar
  simp [go_sem, this]

set_option maxRecDepth 100000 in
set_option maxHeartbeats 4000000 in
theorem sfields_any (l : List UInt8) (v : Value) (w : World) (hb : Bs w v l) (hlen : l.length ≤ 1000000000) :
    Calls Tryz.prog 90 #[v] w fun e w' => ∃ v', e = .returned (.tuple #[v', faultV (fieldsR l).2.1 (fieldsR l).2.2]) ∧ FlO w' w.heap.size v' (fieldsR l).1 ∧ Grew w w' := by
  obtain ⟨a, c, rfl⟩ := bs_len hb
  refine (callsIn_wide (n := 0)).1 (callsIn_of_wp_marks Tryz.func90 rfl trivial ?_ rfl)
  simp only [Tryz.ntmps90, List.size_toArray, List.length_cons, List.length_nil, Nat.reduceAdd, Nat.reduceSub, Array.replicate_succ, Array.replicate_zero, List.push_toArray, List.append_toArray, List.nil_append, List.cons_append]
  gi_wp2_with (gi_at_call 112; refine (callsIn_wide.2 (skeach_any _ _ _ _)).mono ?_; rintro e w1 ⟨rfl, rfl⟩)
  obtain ⟨w0, hw0⟩ : ∃ w0, w0 = (((w.alloc (.cells #[.slice none 0 0] 95)).alloc (.cells #[.int .i64 0, .int .i64 0] 32)).alloc (.cells #[.slice none 0 0] 95)) := ⟨_, rfl⟩
  have gw0 : Grew w w0 := by rw [hw0]; exact (((Below.refl _ _).alloc (Nat.le_refl _) _).alloc (by simp) _).alloc (by simp; omega) _
  have hz0 : w0.heap.size = w.heap.size + 1 + 1 + 1 := by rw [hw0]; simp
  have k0 : Blk w0 w.heap.size 95 #[.slice none 0 0] := by rw [hw0]; exact ((Blk.new _ _ _).alloc _).alloc _
  have k1 : Blk w0 (w.heap.size + 1) 32 #[.int .i64 0, .int .i64 0] := by rw [hw0]; exact (Blk.at (by simp)).alloc _
  have k2 : Blk w0 (w.heap.size + 1 + 1) 95 #[.slice none 0 0] := by rw [hw0]; exact Blk.at (by simp)
  try rw [← hw0]
  try rw [← hz0]
  have gb := grew_alloc w0 (.cells #[.slice a l.length c] 22)
  refine wpIn_iterW (gf := 129) (lb := #[.pointer (some ⟨w0.heap.size, 0, none⟩)]) rfl (enters_of Tryz.func129 (by kernel_rfl) rfl)
    (skip_iter l (.slice a l.length c) w0.heap.size w.heap.size _ (by have := gw0.size; simp; omega) (Blk.new _ _ _) (hb.grew (gw0.trans gb)) hlen)
    (fun A B e => e.keeps) (fun A B C h1 h2 => h1.ck h2) (fun _ => rfl)
    (FieldsI l w) (FieldsX l w) (fun pre A B h e => h.tch e) (fun pre A B h hc => h.ck hc (by have := gw0.size; simp; omega)) (fun _ _ _ _ h e => h.tch e) (fun _ _ _ _ h hc => h.ck hc (by have := gw0.size; simp; omega))
    ⟨_, [], k0.grew gb, k1.grew gb, k2.grew gb, FieldsV.nil _ _, gw0.trans gb, (fun x h => by cases h), Nat.zero_le _, Nat.zero_le _, by show _ = _; rw [nextF_nil]; exact joinF_nil.symm⟩ ?round ?done ?stop
  case stop =>
    rintro cd pre W - ⟨rfl, ee, at_, h1, h2, h3, h4⟩ hD
    gi_wp2
    simp only [World.size_alloc] at hD ⊢
    have hck := CK.putObj w.heap.size W _ _ (.deferred none) hD rfl (by omega)
    refine ⟨by simp, .inl ⟨_, _, rfl, run_takeDeferred hD, ?_⟩⟩
    refine ⟨_, results_cc rfl _ _ _ _ _ _ rfl rfl (loadVar_flds _ _ _ (hck.blk h1)) (loadVar_fault _ _ _ rfl (hck.blk h2)), ?_⟩
    rw [show fieldsR l = fieldsAt l 0 from rfl, h4.out]
    exact ⟨_, rfl, FlO.nil _ _, Below.trans h3 (hck.toBelow (by omega))⟩
  case done =>
    rintro xs W hS ⟨v, ps, h0, h1, h2, h3, h4, h5, h6, h7, h8⟩ hD
    have hSl : l.length ≤ nextF l xs := by
      rcases hS with h | h
      · exact h
      · exact absurd h5 h
    rw [show fieldsAt l 0 = fieldsR l from rfl, joinF_end _ hSl] at h8
    obtain ⟨a9, n9, c9, rfl, hn9⟩ : ∃ a n c, v = .slice a n c ∧ True := by obtain ⟨a, c, e, _⟩ := (Sl.of_own h3.1).open; exact ⟨a, _, c, e, trivial⟩
    have c0 := h0.cell 0
    have c2 := h2.cell 0
    have f0 := h0.frozen 0
    obtain ⟨u0, u1, u2, u3⟩ := cells_of h1
    simp only [List.getElem?_toArray, List.getElem?_cons_zero] at c0 c2
    have H0 := Lib.hid h0
    have H1 := Lib.hid h1
    have H2 := Lib.hid h2
    clear h0 h1 h2 hS hSl h5 h6 h7
    gi_wp2
    obtain ⟨W9, hW9⟩ : ∃ W9, W9 = (((W.setCell ⟨w.heap.size, 0, none⟩ (.slice a9 n9 c9)).setCell ⟨w.heap.size + 1, 0, none⟩ (.int .i64 0)).setCell ⟨w.heap.size + 1, 1, none⟩ (.int .i64 0)) := ⟨_, rfl⟩
    try rw [← hW9]
    have r0 : Blk W9 w.heap.size 95 #[.slice a9 n9 c9] := by rw [hW9]; exact ((H0.out.set 0 _).other ⟨w.heap.size + 1, 0, none⟩ _ (by simp)).other ⟨w.heap.size + 1, 1, none⟩ _ (by simp)
    have r1 : Blk W9 (w.heap.size + 1) 32 #[.int .i64 0, .int .i64 0] := by rw [hW9]; exact ((H1.out.other ⟨w.heap.size, 0, none⟩ _ (by simp)).set 0 _).set 1 _
    have r2 : FieldsV W9 w.heap.size (.slice a9 n9 c9) ps := by
      rw [hW9]
      exact ((h3.set H0.out (by decide) (by decide) 0 _).set (H1.out.other ⟨w.heap.size, 0, none⟩ _ (by simp)) (by decide) (by decide) 0 _).set ((H1.out.other ⟨w.heap.size, 0, none⟩ _ (by simp)).set 0 _) (by decide) (by decide) 1 _
    have r3 : Grew w W9 := by rw [hW9]; exact grew_set (grew_set (grew_set h4 (Nat.le_refl _) _) (by omega) _) (by omega) _
    have hD9 : W9.heap[(w0.alloc (.cells #[.slice a l.length c] 22)).heap.size]? = some (.deferred (some [])) := by
      rw [hW9]
      simp only [World.size_alloc, hz0] at hD ⊢
      exact (heap_setCell_other _ ⟨w.heap.size + 1, 1, none⟩ _ _ (by simp; omega)).trans ((heap_setCell_other _ ⟨w.heap.size + 1, 0, none⟩ _ _ (by simp; omega)).trans ((heap_setCell_other _ ⟨w.heap.size, 0, none⟩ _ _ (by simp; omega)).trans hD))
    clear hW9
    have hck := CK.putObj w.heap.size W9 _ _ (.deferred none) hD9 rfl (by simp [hz0]; omega)
    refine ⟨by simp, .inl ⟨_, _, rfl, run_takeDeferred hD9, ?_⟩⟩
    refine ⟨_, results_cc rfl _ _ _ _ _ _ rfl rfl (loadVar_flds _ _ _ (hck.blk r0)) (loadVar_fault _ _ _ rfl (hck.blk r1)), ?_⟩
    rw [h8.out]
    exact ⟨_, rfl, ⟨ps, rfl, r2.ck hck⟩, Below.trans r3 (hck.toBelow (by omega))⟩
  case round =>
    rintro lp pre ⟨k, pv⟩ W hi ⟨hk1, hk2, hpv⟩
    obtain ⟨a1, n1, cp, rfl, hn1⟩ := hpv.shape
    simp only at hk1 hk2 hpv
    obtain ⟨X, hX⟩ : ∃ X, X = oneR l k := ⟨_, rfl⟩
    rw [← hX] at hpv
    have HX := Lib.hid hX
    have HK2 := Lib.hid hk2
    have hwz : w.heap.size ≤ W.heap.size := by obtain ⟨_, _, _, _, _, _, h, _⟩ := hi; exact h.size
    obtain ⟨W1, hW1⟩ : ∃ W1, W1 = ((W.alloc (.cells #[.int .i64 X.1.1, .int .u8 (X.1.2.1 : Nat), .int .u64 (X.1.2.2.1 : Nat), .slice a1 n1 cp, .int .i64 X.1.2.2.2.2] 101)).alloc (.cells #[.int .i64 (X.2.1 : Nat), .int .i64 (X.2.2.1 : Nat)] 32)) := ⟨_, rfl⟩
    have hga : Grew W W1 := by rw [hW1]; exact ((Below.refl _ _).alloc (Nat.le_refl _) _).alloc (by simp) _
    have hA : Blk W1 W.heap.size 101 #[.int .i64 X.1.1, .int .u8 (X.1.2.1 : Nat), .int .u64 (X.1.2.2.1 : Nat), .slice a1 n1 cp, .int .i64 X.1.2.2.2.2] := by rw [hW1]; exact (Blk.new _ _ _).alloc _
    have hB : Blk W1 (W.heap.size + 1) 32 #[.int .i64 (X.2.1 : Nat), .int .i64 (X.2.2.1 : Nat)] := by rw [hW1]; exact Blk.at (by simp)
    simp only [encF, ← hX]
    clear hX hk2
    gi_wp2
    try rw [← hW1]
    refine ⟨keepsOthers_grew hga, hi.tch (Tch.of_grew hga hwz), ?_⟩
    rintro W2 hck hsz ⟨v, ps, h0, h1, h2, h3, h4, h5, h6, h7, h8⟩
    have b0 := hck.blk hA
    have b1 := hck.blk hB
    have hkeep : KeepT SkT W W2 := (KeepT.of_grew hga).ck hck
    have hp2 := (hpv.grew hga).ck hck
    have hz1 : W1.heap.size = W.heap.size + 1 + 1 := by rw [hW1]; simp
    clear hi hga hck hpv hA hB hW1 hsz hz1
    have hkl : k < l.length := hk1
    have hn : nextF l (pre ++ [(k, .slice a1 n1 cp)]) = X.2.2.2 := by rw [nextF_snoc]; simp only [← HX.out]
    have HN := Lib.hid hn
    rw [← HK2.out] at h6 h7 h8
    obtain ⟨x0, x1, x2, x3⟩ := cells_of b1
    clear hn hk1
    by_cases he : X.2.1 ≠ 0
    · have hne : ((X.2.1 : Int) != 0) = true := by simp; omega
      rw [joinF_bad _ hkl (by rw [← HX.out]; exact he), ← HX.out] at h8
      have c0 := h0.cell 0
      have f0 := h0.frozen 0
      obtain ⟨u0, u1, u2, u3⟩ := cells_of h1
      simp only [List.getElem?_toArray, List.getElem?_cons_zero] at c0
      have H0 := Lib.hid h0
      have H1 := Lib.hid h1
      have H2 := Lib.hid h2
      have B0 := Lib.hid b0
      have B1 := Lib.hid b1
      clear h0 h1 h2 b0 b1 he
      gi_wp2
      gi_region
      all_goals
        gi_wp2
        refine ⟨((KeepsOthers.setCell _ _ _).trans (KeepsOthers.setCell _ _ _)).trans ((KeepsOthers.setCell _ _ _).trans (keepsOthers_grew (Drew.grew ⟨1, rfl⟩))), rfl, X.2.1, X.2.2.1, ?_, ?_, ?_, h8⟩
        · exact (((H0.out.set 0 _).other ⟨w.heap.size + 1, 0, none⟩ _ (by simp)).other ⟨w.heap.size + 1, 1, none⟩ _ (by simp)).drew
        · exact (((H1.out.other ⟨w.heap.size, 0, none⟩ _ (by simp)).set 0 _).set 1 _).drew
        · exact Below.trans (grew_set (grew_set (grew_set h4 (Nat.le_refl _) _) (by omega) _) (by omega) _) ((Drew.grew ⟨1, rfl⟩ : Grew _ _).mono (by have := h4.size; simp; omega))
    · have he0 : X.2.1 = 0 := by omega
      have ho := oneR_ok l k h6 (by rw [← HX.out]; exact he0)
      rw [← HX.out] at ho
      obtain ⟨-, -, ho3, ho4, -⟩ := ho
      rw [joinF_step _ hkl (by rw [← HX.out]; exact he0), ← HX.out] at h8
      have hgd : goodF l (pre ++ [(k, .slice a1 n1 cp)]) := by
        intro x hx
        rcases List.mem_append.1 hx with hx | hx
        · exact h5 x hx
        · obtain rfl := List.mem_singleton.1 hx
          simp only [← HX.out]; exact he0
      rw [he0] at x0
      replace x0 : W2.cell? ⟨W.heap.size + 1, 0, none⟩ = some (.int .i64 0) := x0
      have HGD := Lib.hid hgd
      obtain ⟨a9, c9, e9, -⟩ := (Sl.of_own h3.1).open
      have HO := Lib.hid h3
      have HP := Lib.hid hp2
      obtain ⟨p0, p1, p2, p3, p4, -⟩ := cells5 b0
      clear he he0 h3 hp2 h5 hgd
      subst e9
      have hga := grew_alloc W2 (.cells #[.int .i64 X.1.1, .int .u8 (X.1.2.1 : Nat), .int .u64 (X.1.2.2.1 : Nat), .slice a1 n1 cp, .int .i64 X.1.2.2.2.2] 101)
      have hsl : Sl (W2.alloc (.cells #[.int .i64 X.1.1, .int .u8 (X.1.2.1 : Nat), .int .u64 (X.1.2.2.1 : Nat), .slice a1 n1 cp, .int .i64 X.1.2.2.2.2] 101)) (.slice (some ⟨W2.heap.size, 0, none⟩) 1 1) 1 5 (ffv (X.1, .slice a1 n1 cp)) := Sl.lit W2 101 (0, 0) #[.int .i64 X.1.1, .int .u8 (X.1.2.1 : Nat), .int .u64 (X.1.2.2.1 : Nat), .slice a1 n1 cp, .int .i64 X.1.2.2.2.2] 1 5 rfl (by unfold maxLen; omega)
      have HSL := Lib.hid hsl
      have c2 := h2.cell 0
      simp only [List.getElem?_toArray, List.getElem?_cons_zero] at c2
      have H0 := Lib.hid h0
      have H1 := Lib.hid h1
      clear hsl h0 h1
      gi_wp2_with (gi_at_builtin; refine wpListIn_pushFl rfl _ _ rfl w.heap.size _ ps rfl (HO.out.grew hga) _ rfl (X.1, .slice a1 n1 cp) HSL.out (HP.out.grew hga) (by omega) (by have := h4.size; simp; omega) ?_; intro v' w2 hown2 hB2 hgb; obtain ⟨a8, c8, rfl, -⟩ := (Sl.of_own hown2.1).open; have h1w := (h2.grew hga).kept hgb (blk_ne_row (h2.grew hga) (HO.out.grew hga).1 (by decide)); have c1w := h1w.cell 0; simp only [List.getElem?_toArray, List.getElem?_cons_zero] at c1w; have f1w := h1w.frozen 0)
      have kb : ∀ b t cs, Blk W2 b t cs → t ≠ 101 → b ≠ w.heap.size + 1 + 1 → Blk (w2.setCell ⟨w.heap.size + 1 + 1, 0, none⟩ (.slice a8 (ps.length + 1) c8)) b t cs := fun b t cs h ht hne =>
        ((h.grew hga).kept hgb (blk_ne_row (h.grew hga) (HO.out.grew hga).1 ht)).other ⟨w.heap.size + 1 + 1, 0, none⟩ _ hne
      have hl1 : (ps ++ [((X.1, (Value.slice a1 n1 cp)) : FFV)]).length = ps.length + 1 := by simp
      rw [hl1] at hown2
      have gB : Below w.heap.size W2 (w2.setCell ⟨w.heap.size + 1 + 1, 0, none⟩ (.slice a8 (ps.length + 1) c8)) := grew_set (Below.trans (hga.mono h4.size) hB2) (by omega) _
      refine ⟨((keepsOthers_grew hga).trans (keepsOthers_app (HO.out.grew hga).1 hgb)).trans (KeepsOthers.setCell _ _ _), ((hkeep.trans (KeepT.of_grew hga)).grown (HO.out.grew hga).1 (by decide) hgb).set h1w (by decide) 0 _, ?_⟩
      refine ⟨_, ps ++ [(X.1, .slice a1 n1 cp)], kb _ _ _ H0.out (by decide) (by omega), kb _ _ _ H1.out (by decide) (by omega), h1w.set 0 _, hown2.set h1w (by decide) (by decide) 0 _, Below.trans h4 gB, HGD.out, ?_, ?_, ?_⟩
      · rw [HN.out]; omega
      · rw [HN.out, hl1]; omega
      · rw [HN.out, List.map_append]; exact h8
end Go.Proofs.YtbjoohafgkodcaaGreat
