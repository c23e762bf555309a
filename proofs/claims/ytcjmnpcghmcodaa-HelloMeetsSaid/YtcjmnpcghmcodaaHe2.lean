/- Package hello: Answer: contract. -/
import Derived.Test.YtcjmnpcghmcodaaHe1
import Derived.Test.YtcjmnpcghmcodaaGrt
namespace Go.Proofs.Ytcjmnpcghmcodaa
open Go Go.RowKit Go.Shelf

/-- what is wrong with an ask -/
def ansF (m : Msg) : Nat := first4 (if m.k ≠ 1 then 7 else 0) (chkM m (ofKind m.k (rowsIn 1))).1 (if m.n 1 < m.n 0 then 1 else 0) (if (chV (m.n 0) (m.n 1)).2 = true then 0 else 15)
/-- no message at all -/
def zeroM : Msg := ⟨0, fun _ => 0, fun _ => ⟨#[]⟩, []⟩
/-- a name, as far as there is room -/
def ownN (nm : ByteArray) : ByteArray := if nm.size ≤ 64 then nm else nm.extract 0 64
def ansV (m : Msg) : Nat := if ansF m = 0 then (chV (m.n 0) (m.n 1)).1 else 0
def ansM (m : Msg) (ss : Nat) (nm : ByteArray) : Msg :=
  if ansF m = 0 then ⟨2, fun i => if i = 0 then (chV (m.n 0) (m.n 1)).1 else if i = 1 then ss else 0, fun i => if i = 0 ∧ 1 < (chV (m.n 0) (m.n 1)).1 ∧ firstV (ownN nm) < 0 then ownN nm else ⟨#[]⟩, []⟩ else zeroM
theorem chV_le (lo hi : Nat) : (chV lo hi).1 ≤ 3 := by unfold chV; split <;> simp; omega
theorem ans_err {m : Msg} {ss : Nat} {nm : ByteArray} (h : ansF m ≠ 0) : msgA (ansM m ss nm) (.slice none 0 0) = zMsg ∧ ansV m = 0 := by
  unfold ansM ansV; rw [if_neg h, if_neg h]; exact ⟨rfl, rfl⟩
theorem ans_own {m : Msg} {ss : Nat} {nm : ByteArray} (h : ansF m = 0) (h1 : 1 < (chV (m.n 0) (m.n 1)).1) (h2 : firstV (ownN nm) < 0) : msgA (ansM m ss nm) (.slice none 0 0) = #[.int .u8 2, .int .u64 (chV (m.n 0) (m.n 1)).1, .int .u64 ss, .int .u64 0, .int .u64 0, .int .u64 0, .int .u64 0, .string (ownN nm), .string ⟨#[]⟩, .slice none 0 0] ∧ ansV m = (chV (m.n 0) (m.n 1)).1 := by
  unfold ansM ansV; rw [if_pos h, if_pos h]
  refine ⟨?_, rfl⟩
  unfold msgA; simp [h1, h2]
theorem ans_not {m : Msg} {ss : Nat} {nm : ByteArray} (h : ansF m = 0) (h1 : ¬ (1 < (chV (m.n 0) (m.n 1)).1 ∧ firstV (ownN nm) < 0)) : msgA (ansM m ss nm) (.slice none 0 0) = #[.int .u8 2, .int .u64 (chV (m.n 0) (m.n 1)).1, .int .u64 ss, .int .u64 0, .int .u64 0, .int .u64 0, .int .u64 0, .string ⟨#[]⟩, .string ⟨#[]⟩, .slice none 0 0] ∧ ansV m = (chV (m.n 0) (m.n 1)).1 := by
  unfold ansM ansV; rw [if_pos h, if_pos h]
  refine ⟨?_, rfl⟩
  unfold msgA; simp only [true_and, if_neg h1]; simp
set_option maxRecDepth 100000 in
set_option maxHeartbeats 1000000 in
theorem answer_any (m : Msg) (a : Option Addr) (c : Nat) (ss : Nat) (nm : ByteArray) (w : World) (ho : okM m) (hl : Tx w (.slice a m.l.length c) m.l) (hlen : m.l.length ≤ 1000000000) :
    Calls Try.prog 25 #[.agg (msgA m (.slice a m.l.length c)), .int .u64 ss, .string nm] w fun e w' => e = .returned (.tuple #[.agg (msgA (ansM m ss nm) (.slice none 0 0)), .int .i64 (ansV m : Nat), .int .i64 (ansF m : Nat)]) ∧ Grew w w' := by
  obtain ⟨W0, hW0⟩ : ∃ W0, W0 = (w.alloc (.cells (msgA m (.slice a m.l.length c)) 27)).alloc (.cells zMsg 27) := ⟨_, rfl⟩
  have g0 : Grew w W0 := by rw [hW0]; exact grew2 _ _ _
  have k1 : Blk W0 w.heap.size 27 (msgA m (.slice a m.l.length c)) := by rw [hW0]; exact (Blk.new _ _ _).alloc _
  have k2 : Blk W0 (w.heap.size + 1) 27 zMsg := by rw [hW0]; exact Blk.new2 _ _ _ _
  have K1 := Lib.hid k1
  have K2 := Lib.hid k2
  have G0 := Lib.hid g0
  have KC := Lib.hid (fun W g => vcheck_any m (.slice a m.l.length c) 1 W ho (hl.grew (g : Grew w W)) hlen)
  have KH := Lib.hid (fun W => choose_any (m.n 0) (m.n 1) W)
  obtain ⟨c0, c1, c2, c3, c4, c5, c6, c7, c8, c9⟩ := msg_cells k1
  generalize hX : chkM m (ofKind m.k (rowsIn 1)) = X at KC
  generalize hY : chV (m.n 0) (m.n 1) = Y at KH
  obtain ⟨RM, hRM⟩ : ∃ RM, RM = msgA (ansM m ss nm) (.slice none 0 0) := ⟨_, rfl⟩
  rw [← hRM]
  have HRM := Lib.hid hRM
  clear hRM
  simp only [msgA, zMsg, fltV] at hW0 KC K1 ⊢
  have HX := Lib.hid hX
  have HY := Lib.hid hY
  have hy3 := chV_le (m.n 0) (m.n 1)
  rw [hY] at hy3
  have hfd : ∀ W : World, (Instr.field 32 (.agg #[.int .i64 X.1, .int .i64 X.2]) 0).run Try.prog W = .ok (.int .i64 X.1) W := fun W => by kernel_rfl
  have KW := Lib.hid when_any
  clear k1 k2 g0 hl ho hlen
  go_enter Try.func25, Try.ntmps25
  go_wp2_with fail
  rw [← hW0]
  refine (KH.out _).mono ?_
  rintro e w1 ⟨rfl, rfl⟩
  clear hW0 c0 c1 c2 c3 c4 c5 c6 c7 c8 c9
  go_wp2
  refine wp_region_grew_tail 18 W0 (Below.refl _ _) (by kernel_rfl) (by kernel_rfl) ?_
  simp only [List.take_succ_cons, List.take_zero, List.drop_succ_cons, List.drop_zero]
  repeat (
    refine BigFrame.wpQuiet_want (by kernel_rfl) (fun K hK => ?_)
    first
      | (refine q_row 27 _ rfl w.heap.size rfl 27 _ _ K1.out Try.underlying27 rfl (by kernel_rfl) (hK _ ?_))
      | (apply Exists.intro
         apply And.intro
         · intro W hW
           obtain ⟨c0, c1, c2, -⟩ := msg_cells (m := m) (K1.out.grew hW.out)
           go_simp
           first
             | done
             | with_reducible rfl
             | with_reducible exact q_calls hW (KC.out W (G0.out.trans hW.out)) (fun _ _ h => h)
             | with_reducible exact q_calls hW (KW.out _ _ W) (fun _ _ h => ⟨h.1, h.2 ▸ Below.refl _ _⟩)
         refine hK _ ?_)
    clear hK K
    simp only [Act.put, List.setIfInBounds_toArray, List.set_cons_zero, List.set_cons_succ])
  refine wpQuiet_nil ?_
  intro w3 g3
  have G3 := Lib.hid (G0.out.trans g3.out)
  have K3 := Lib.hid (K1.out.grew g3.out)
  have K4 := Lib.hid (K2.out.grew g3.out)
  obtain ⟨f1, hf1⟩ : ∃ f : Nat, (f : Int) = if ((m.k : Int) != 1) = true then 7 else 0 := by split <;> exact ⟨_, rfl⟩
  obtain ⟨f3, hf3⟩ : ∃ f : Nat, (f : Int) = if decide (m.n 1 < m.n 0) = true then 1 else 0 := by split <;> exact ⟨_, rfl⟩
  obtain ⟨f4, hf4⟩ : ∃ f : Nat, (f : Int) = if (!Y.2) = true then 15 else 0 := by split <;> exact ⟨_, rfl⟩
  rw [← hf1, ← hf3, ← hf4]
  have KF := Lib.hid (fun B W => hfirst_any f1 X.1 f3 f4 B W)
  have hf : first4 f1 X.1 f3 f4 = ansF m := by
    unfold ansF
    rw [hX, hY]
    have a1 : f1 = if m.k ≠ 1 then 7 else 0 := by by_cases h : m.k = 1 <;> simp [h] at hf1 ⊢ <;> omega
    have a3 : f3 = if m.n 1 < m.n 0 then 1 else 0 := by by_cases h : m.n 1 < m.n 0 <;> simp [h] at hf3 ⊢ <;> omega
    have a4 : f4 = if Y.2 = true then 0 else 15 := by by_cases h : Y.2 = true <;> simp [h] at hf4 ⊢ <;> omega
    rw [a1, a3, a4]
  have HFF := Lib.hid hf
  clear g3 K1 K2 G0 hf1 hf3 hf4 hX hY hf
  go_wp2_with fail
  obtain ⟨W5, hW5⟩ : ∃ W5, W5 = w3.alloc (.cells #[.int .i64 f1, .int .i64 X.1, .int .i64 f3, .int .i64 f4] 30) := ⟨_, rfl⟩
  have kb : Blk W5 w3.heap.size 30 #[.int .i64 f1, .int .i64 X.1, .int .i64 f3, .int .i64 f4] := by rw [hW5]; exact Blk.new _ _ _
  have G5 : RowKit.Hid (Grew w W5) := Lib.hid (by rw [hW5]; exact G3.out.trans (grew_alloc _ _))
  have K5 : RowKit.Hid (Blk W5 w.heap.size 27 _) := Lib.hid (by rw [hW5]; exact K3.out.alloc _)
  have K6 : RowKit.Hid (Blk W5 (w.heap.size + 1) 27 zMsg) := Lib.hid (by rw [hW5]; exact K4.out.alloc _)
  rw [← hW5]
  refine (hfirst_any f1 X.1 f3 f4 w3.heap.size W5 (kb.cell 0) (kb.cell 1) (kb.cell 2) (kb.cell 3)).mono ?_
  rintro e w6 ⟨rfl, rfl⟩
  obtain ⟨F, hF⟩ : ∃ F, F = first4 f1 X.1 f3 f4 := ⟨_, rfl⟩
  rw [← hF]
  have HF := Lib.hid (hF.trans HFF.out)
  clear hF hW5 kb G3 K3 K4 KF HFF HX
  by_cases h0 : F = 0
  · subst h0
    by_cases hA : 1 < Y.1 ∧ firstV (ownN nm) < 0
    · obtain ⟨hA1, hA2⟩ := hA
      have E := ans_own (ss := ss) (nm := nm) HF.out.symm (by rw [HY.out]; exact hA1) hA2
      rw [HY.out] at E
      have hy' : (1 : Int) < (Y.1 : Int) := by omega
      have hy3' : (Y.1 : Int) ≤ 3 := by omega
      clear hA1 hy3
      by_cases hs : nm.size ≤ 64
      · have hs' : (nm.size : Int) ≤ 64 := by omega
        rw [show ownN nm = nm from if_pos hs] at E hA2
        have HE := Lib.hid E
        clear E
        obtain ⟨W7, hW7⟩ : ∃ W7, W7 = W5.alloc (.cells #[.int .u8 2, .int .u64 Y.1, .int .u64 ss, .int .u64 0, .int .u64 0, .int .u64 0, .int .u64 0, .string ⟨#[]⟩, .string ⟨#[]⟩, .slice none 0 0] 27) := ⟨_, rfl⟩
        have kz : Blk W7 W5.heap.size 27 #[.int .u8 2, .int .u64 Y.1, .int .u64 ss, .int .u64 0, .int .u64 0, .int .u64 0, .int .u64 0, .string ⟨#[]⟩, .string ⟨#[]⟩, .slice none 0 0] := by rw [hW7]; exact Blk.new _ _ _
        have k6 : Blk W7 (w.heap.size + 1) 27 zMsg := by rw [hW7]; exact K6.out.alloc _
        have g7 : Grew w W7 := by rw [hW7]; exact G5.out.trans (grew_alloc _ _)
        have KZ := Lib.hid kz
        have KK6 := Lib.hid k6
        have G7 := Lib.hid g7
        have KU := Lib.hid (first_any (nm) (by omega) W7)
        clear kz k6 g7
        have hq : decide (firstV (nm) < 0) = true := by simpa using hA2
        clear hA2
        go_wp2_with fail
        rw [← hW7]
        clear hW7
        refine KU.out.mono ?_
        rintro e w8 ⟨rfl, g8⟩
        have kz8 := KZ.out.grew g8
        have k68 := KK6.out.grew g8
        have g78 := G7.out.trans g8
        have c7 := kz8.cell 7
        have f7 := kz8.frozen 7
        simp only [List.getElem?_toArray, List.getElem?_cons_zero, List.getElem?_cons_succ] at c7
        have S1 := Lib.hid (kz8.set 7 (.string (nm)))
        have S2 := Lib.hid (k68.other ⟨W5.heap.size, 7, none⟩ (.string (nm)) (by have := K6.out.lt; simp; omega))
        have S3 := Lib.hid (grew_set (b := W5.heap.size) (j := 7) g78 (by have := K6.out.lt; omega) (.string (nm)))
        clear kz8 k68 g78 g8
        go_upto_region 10 with (fail)
        refine wp_region_lit ?_
        refine wpList_load_row rfl 27 _ rfl W5.heap.size rfl 27 _ (0, 0) _ S1.out Try.underlying27 rfl (by kernel_rfl) ?_
        refine wpList_plain rfl (fun K hK => ?_)
        go_simp
        refine hK _ _ ?_
        refine wpList_store_row rfl 27 _ _ rfl (w.heap.size + 1) _ rfl rfl 27 _ S2.out (by kernel_rfl) rfl (by first | kernel_rfl | exact Eq.refl true | simp [Value.oneCell']) ?_
        go_wp2_with fail
        refine bodyPost_ret (results_ctt rfl _ _ ⟨w.heap.size + 1, 0, none⟩ _ (.int .i64 Y.1) (.int .i64 0) (by kernel_rfl) (by kernel_rfl) (by kernel_rfl) (run_loadVar_row _ (w.heap.size + 1) 27 27 _ (0, 0) _ (Blk.row S2.out _) Try.underlying27 rfl (by kernel_rfl))) rfl ?_
        exact ⟨by rw [HRM.out, HE.out.1, HE.out.2, ← HF.out]; rfl, below_setRow S3.out (by omega) _⟩
      · have hs' : (64 : Int) < (nm.size : Int) := by omega
        rw [show ownN nm = nm.extract 0 64 from if_neg hs] at E hA2
        have HE := Lib.hid E
        clear E
        obtain ⟨W7, hW7⟩ : ∃ W7, W7 = W5.alloc (.cells #[.int .u8 2, .int .u64 Y.1, .int .u64 ss, .int .u64 0, .int .u64 0, .int .u64 0, .int .u64 0, .string ⟨#[]⟩, .string ⟨#[]⟩, .slice none 0 0] 27) := ⟨_, rfl⟩
        have kz : Blk W7 W5.heap.size 27 #[.int .u8 2, .int .u64 Y.1, .int .u64 ss, .int .u64 0, .int .u64 0, .int .u64 0, .int .u64 0, .string ⟨#[]⟩, .string ⟨#[]⟩, .slice none 0 0] := by rw [hW7]; exact Blk.new _ _ _
        have k6 : Blk W7 (w.heap.size + 1) 27 zMsg := by rw [hW7]; exact K6.out.alloc _
        have g7 : Grew w W7 := by rw [hW7]; exact G5.out.trans (grew_alloc _ _)
        have KZ := Lib.hid kz
        have KK6 := Lib.hid k6
        have G7 := Lib.hid g7
        have KU := Lib.hid (first_any (nm.extract 0 64) (by simp; omega) W7)
        clear kz k6 g7
        have hq : decide (firstV (nm.extract 0 64) < 0) = true := by simpa using hA2
        clear hA2
        go_wp2_with fail
        rw [← hW7]
        clear hW7
        refine KU.out.mono ?_
        rintro e w8 ⟨rfl, g8⟩
        have kz8 := KZ.out.grew g8
        have k68 := KK6.out.grew g8
        have g78 := G7.out.trans g8
        have c7 := kz8.cell 7
        have f7 := kz8.frozen 7
        simp only [List.getElem?_toArray, List.getElem?_cons_zero, List.getElem?_cons_succ] at c7
        have S1 := Lib.hid (kz8.set 7 (.string (nm.extract 0 64)))
        have S2 := Lib.hid (k68.other ⟨W5.heap.size, 7, none⟩ (.string (nm.extract 0 64)) (by have := K6.out.lt; simp; omega))
        have S3 := Lib.hid (grew_set (b := W5.heap.size) (j := 7) g78 (by have := K6.out.lt; omega) (.string (nm.extract 0 64)))
        clear kz8 k68 g78 g8
        go_upto_region 10 with (fail)
        refine wp_region_lit ?_
        refine wpList_load_row rfl 27 _ rfl W5.heap.size rfl 27 _ (0, 0) _ S1.out Try.underlying27 rfl (by kernel_rfl) ?_
        refine wpList_plain rfl (fun K hK => ?_)
        go_simp
        refine hK _ _ ?_
        refine wpList_store_row rfl 27 _ _ rfl (w.heap.size + 1) _ rfl rfl 27 _ S2.out (by kernel_rfl) rfl (by first | kernel_rfl | exact Eq.refl true | simp [Value.oneCell']) ?_
        go_wp2_with fail
        refine bodyPost_ret (results_ctt rfl _ _ ⟨w.heap.size + 1, 0, none⟩ _ (.int .i64 Y.1) (.int .i64 0) (by kernel_rfl) (by kernel_rfl) (by kernel_rfl) (run_loadVar_row _ (w.heap.size + 1) 27 27 _ (0, 0) _ (Blk.row S2.out _) Try.underlying27 rfl (by kernel_rfl))) rfl ?_
        exact ⟨by rw [HRM.out, HE.out.1, HE.out.2, ← HF.out]; rfl, below_setRow S3.out (by omega) _⟩
    · have E := ans_not (ss := ss) (nm := nm) HF.out.symm (by rw [HY.out]; exact hA)
      rw [HY.out] at E
      by_cases hy : 1 < Y.1
      · have hy' : (1 : Int) < (Y.1 : Int) := by omega
        have hy3' : (Y.1 : Int) ≤ 3 := by omega
        have hA2 : ¬ firstV (ownN nm) < 0 := fun h => hA ⟨hy, h⟩
        clear hA hy hy3
        by_cases hs : nm.size ≤ 64
        · have hs' : (nm.size : Int) ≤ 64 := by omega
          rw [show ownN nm = nm from if_pos hs] at hA2
          have HE := Lib.hid E
          clear E
          obtain ⟨W7, hW7⟩ : ∃ W7, W7 = W5.alloc (.cells #[.int .u8 2, .int .u64 Y.1, .int .u64 ss, .int .u64 0, .int .u64 0, .int .u64 0, .int .u64 0, .string ⟨#[]⟩, .string ⟨#[]⟩, .slice none 0 0] 27) := ⟨_, rfl⟩
          have kz : Blk W7 W5.heap.size 27 #[.int .u8 2, .int .u64 Y.1, .int .u64 ss, .int .u64 0, .int .u64 0, .int .u64 0, .int .u64 0, .string ⟨#[]⟩, .string ⟨#[]⟩, .slice none 0 0] := by rw [hW7]; exact Blk.new _ _ _
          have k6 : Blk W7 (w.heap.size + 1) 27 zMsg := by rw [hW7]; exact K6.out.alloc _
          have g7 : Grew w W7 := by rw [hW7]; exact G5.out.trans (grew_alloc _ _)
          have KZ := Lib.hid kz
          have KK6 := Lib.hid k6
          have G7 := Lib.hid g7
          have KU := Lib.hid (first_any (nm) (by omega) W7)
          clear kz k6 g7
          have hq : decide (firstV (nm) < 0) = false := by simpa using hA2
          clear hA2
          go_wp2_with fail
          rw [← hW7]
          clear hW7
          refine KU.out.mono ?_
          rintro e w8 ⟨rfl, g8⟩
          have kz8 := KZ.out.grew g8
          have k68 := KK6.out.grew g8
          have g78 := G7.out.trans g8
          have S1 := Lib.hid kz8
          have S2 := Lib.hid k68
          have S3 := Lib.hid g78
          clear kz8 k68 g78 g8
          go_upto_region 10 with (fail)
          refine wp_region_lit ?_
          refine wpList_load_row rfl 27 _ rfl W5.heap.size rfl 27 _ (0, 0) _ S1.out Try.underlying27 rfl (by kernel_rfl) ?_
          refine wpList_plain rfl (fun K hK => ?_)
          go_simp
          refine hK _ _ ?_
          refine wpList_store_row rfl 27 _ _ rfl (w.heap.size + 1) _ rfl rfl 27 _ S2.out (by kernel_rfl) rfl (by first | kernel_rfl | exact Eq.refl true | simp [Value.oneCell']) ?_
          go_wp2_with fail
          refine bodyPost_ret (results_ctt rfl _ _ ⟨w.heap.size + 1, 0, none⟩ _ (.int .i64 Y.1) (.int .i64 0) (by kernel_rfl) (by kernel_rfl) (by kernel_rfl) (run_loadVar_row _ (w.heap.size + 1) 27 27 _ (0, 0) _ (Blk.row S2.out _) Try.underlying27 rfl (by kernel_rfl))) rfl ?_
          exact ⟨by rw [HRM.out, HE.out.1, HE.out.2, ← HF.out]; rfl, below_setRow S3.out (by omega) _⟩
        · have hs' : (64 : Int) < (nm.size : Int) := by omega
          rw [show ownN nm = nm.extract 0 64 from if_neg hs] at hA2
          have HE := Lib.hid E
          clear E
          obtain ⟨W7, hW7⟩ : ∃ W7, W7 = W5.alloc (.cells #[.int .u8 2, .int .u64 Y.1, .int .u64 ss, .int .u64 0, .int .u64 0, .int .u64 0, .int .u64 0, .string ⟨#[]⟩, .string ⟨#[]⟩, .slice none 0 0] 27) := ⟨_, rfl⟩
          have kz : Blk W7 W5.heap.size 27 #[.int .u8 2, .int .u64 Y.1, .int .u64 ss, .int .u64 0, .int .u64 0, .int .u64 0, .int .u64 0, .string ⟨#[]⟩, .string ⟨#[]⟩, .slice none 0 0] := by rw [hW7]; exact Blk.new _ _ _
          have k6 : Blk W7 (w.heap.size + 1) 27 zMsg := by rw [hW7]; exact K6.out.alloc _
          have g7 : Grew w W7 := by rw [hW7]; exact G5.out.trans (grew_alloc _ _)
          have KZ := Lib.hid kz
          have KK6 := Lib.hid k6
          have G7 := Lib.hid g7
          have KU := Lib.hid (first_any (nm.extract 0 64) (by simp; omega) W7)
          clear kz k6 g7
          have hq : decide (firstV (nm.extract 0 64) < 0) = false := by simpa using hA2
          clear hA2
          go_wp2_with fail
          rw [← hW7]
          clear hW7
          refine KU.out.mono ?_
          rintro e w8 ⟨rfl, g8⟩
          have kz8 := KZ.out.grew g8
          have k68 := KK6.out.grew g8
          have g78 := G7.out.trans g8
          have S1 := Lib.hid kz8
          have S2 := Lib.hid k68
          have S3 := Lib.hid g78
          clear kz8 k68 g78 g8
          go_upto_region 10 with (fail)
          refine wp_region_lit ?_
          refine wpList_load_row rfl 27 _ rfl W5.heap.size rfl 27 _ (0, 0) _ S1.out Try.underlying27 rfl (by kernel_rfl) ?_
          refine wpList_plain rfl (fun K hK => ?_)
          go_simp
          refine hK _ _ ?_
          refine wpList_store_row rfl 27 _ _ rfl (w.heap.size + 1) _ rfl rfl 27 _ S2.out (by kernel_rfl) rfl (by first | kernel_rfl | exact Eq.refl true | simp [Value.oneCell']) ?_
          go_wp2_with fail
          refine bodyPost_ret (results_ctt rfl _ _ ⟨w.heap.size + 1, 0, none⟩ _ (.int .i64 Y.1) (.int .i64 0) (by kernel_rfl) (by kernel_rfl) (by kernel_rfl) (run_loadVar_row _ (w.heap.size + 1) 27 27 _ (0, 0) _ (Blk.row S2.out _) Try.underlying27 rfl (by kernel_rfl))) rfl ?_
          exact ⟨by rw [HRM.out, HE.out.1, HE.out.2, ← HF.out]; rfl, below_setRow S3.out (by omega) _⟩
      · have hy' : ¬ (1 : Int) < (Y.1 : Int) := by omega
        have hy3' : (Y.1 : Int) ≤ 3 := by omega
        have HE := Lib.hid E
        clear E hA hy3 hy
        by_cases hs : nm.size ≤ 64
        · have hs' : (nm.size : Int) ≤ 64 := by omega
          go_upto_region 10 with (fail)
          obtain ⟨W7, hW7⟩ : ∃ W7, W7 = W5.alloc (.cells #[.int .u8 2, .int .u64 Y.1, .int .u64 ss, .int .u64 0, .int .u64 0, .int .u64 0, .int .u64 0, .string ⟨#[]⟩, .string ⟨#[]⟩, .slice none 0 0] 27) := ⟨_, rfl⟩
          have kz : Blk W7 W5.heap.size 27 #[.int .u8 2, .int .u64 Y.1, .int .u64 ss, .int .u64 0, .int .u64 0, .int .u64 0, .int .u64 0, .string ⟨#[]⟩, .string ⟨#[]⟩, .slice none 0 0] := by rw [hW7]; exact Blk.new _ _ _
          have k6 : Blk W7 (w.heap.size + 1) 27 zMsg := by rw [hW7]; exact K6.out.alloc _
          have g7 : Grew w W7 := by rw [hW7]; exact G5.out.trans (grew_alloc _ _)
          rw [← hW7]
          clear hW7
          refine wp_region_lit ?_
          refine wpList_load_row rfl 27 _ rfl W5.heap.size rfl 27 _ (0, 0) _ kz Try.underlying27 rfl (by kernel_rfl) ?_
          refine wpList_plain rfl (fun K hK => ?_)
          go_simp
          refine hK _ _ ?_
          refine wpList_store_row rfl 27 _ _ rfl (w.heap.size + 1) _ rfl rfl 27 _ k6 (by kernel_rfl) rfl (by first | kernel_rfl | exact Eq.refl true | simp [Value.oneCell']) ?_
          go_wp2_with fail
          refine bodyPost_ret (results_ctt rfl _ _ ⟨w.heap.size + 1, 0, none⟩ _ (.int .i64 Y.1) (.int .i64 0) (by kernel_rfl) (by kernel_rfl) (by kernel_rfl) (run_loadVar_row _ (w.heap.size + 1) 27 27 _ (0, 0) _ (Blk.row k6 _) Try.underlying27 rfl (by kernel_rfl))) rfl ?_
          exact ⟨by rw [HRM.out, HE.out.1, HE.out.2, ← HF.out]; rfl, below_setRow g7 (by omega) _⟩
        · have hs' : (64 : Int) < (nm.size : Int) := by omega
          go_upto_region 10 with (fail)
          obtain ⟨W7, hW7⟩ : ∃ W7, W7 = W5.alloc (.cells #[.int .u8 2, .int .u64 Y.1, .int .u64 ss, .int .u64 0, .int .u64 0, .int .u64 0, .int .u64 0, .string ⟨#[]⟩, .string ⟨#[]⟩, .slice none 0 0] 27) := ⟨_, rfl⟩
          have kz : Blk W7 W5.heap.size 27 #[.int .u8 2, .int .u64 Y.1, .int .u64 ss, .int .u64 0, .int .u64 0, .int .u64 0, .int .u64 0, .string ⟨#[]⟩, .string ⟨#[]⟩, .slice none 0 0] := by rw [hW7]; exact Blk.new _ _ _
          have k6 : Blk W7 (w.heap.size + 1) 27 zMsg := by rw [hW7]; exact K6.out.alloc _
          have g7 : Grew w W7 := by rw [hW7]; exact G5.out.trans (grew_alloc _ _)
          rw [← hW7]
          clear hW7
          refine wp_region_lit ?_
          refine wpList_load_row rfl 27 _ rfl W5.heap.size rfl 27 _ (0, 0) _ kz Try.underlying27 rfl (by kernel_rfl) ?_
          refine wpList_plain rfl (fun K hK => ?_)
          go_simp
          refine hK _ _ ?_
          refine wpList_store_row rfl 27 _ _ rfl (w.heap.size + 1) _ rfl rfl 27 _ k6 (by kernel_rfl) rfl (by first | kernel_rfl | exact Eq.refl true | simp [Value.oneCell']) ?_
          go_wp2_with fail
          refine bodyPost_ret (results_ctt rfl _ _ ⟨w.heap.size + 1, 0, none⟩ _ (.int .i64 Y.1) (.int .i64 0) (by kernel_rfl) (by kernel_rfl) (by kernel_rfl) (run_loadVar_row _ (w.heap.size + 1) 27 27 _ (0, 0) _ (Blk.row k6 _) Try.underlying27 rfl (by kernel_rfl))) rfl ?_
          exact ⟨by rw [HRM.out, HE.out.1, HE.out.2, ← HF.out]; rfl, below_setRow g7 (by omega) _⟩
  · have hne : ((F : Int) != 0) = true := by simp; omega
    have E := ans_err (ss := ss) (nm := nm) (show ansF m ≠ 0 from by rw [← HF.out]; exact h0)
    have HE := Lib.hid E
    clear h0 E
    go_upto_region 4 with (fail)
    refine wp_region_lit ?_
    refine wpList_build_to rfl 27 _ rfl zMsg (by kernel_rfl) ?_
    refine wpList_plain rfl (fun K hK => ?_)
    go_simp
    refine hK _ _ ?_
    refine wpList_store_row rfl 27 _ _ rfl (w.heap.size + 1) _ rfl rfl 27 _ K6.out (by kernel_rfl) rfl (by first | kernel_rfl | exact Eq.refl true | simp [Value.oneCell', zMsg]) ?_
    go_wp2_with fail
    refine bodyPost_ret (results_ctt rfl _ _ ⟨w.heap.size + 1, 0, none⟩ _ (.int .i64 0) (.int .i64 F) (by kernel_rfl) (by kernel_rfl) (by kernel_rfl) (run_loadVar_row _ (w.heap.size + 1) 27 27 _ (0, 0) _ (Blk.row K6.out _) Try.underlying27 rfl (by kernel_rfl))) rfl ?_
    exact ⟨by rw [HRM.out, HE.out.1, HE.out.2, ← HF.out]; rfl, below_setRow G5.out (by omega) _⟩
end Go.Proofs.Ytcjmnpcghmcodaa
