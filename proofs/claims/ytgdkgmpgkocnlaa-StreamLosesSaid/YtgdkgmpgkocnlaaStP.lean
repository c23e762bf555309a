/- Package stream: one: contract. -/
import Derived.Test.YtgdkgmpgkocnlaaStO
namespace Go.Proofs.Ytgdkgmpgkocnlaa
open Go Go.RowKit Go.Shelf

set_option maxRecDepth 100000 in
set_option maxHeartbeats 8000000 in
theorem sone_3 (base : Nat) (b : List UInt8) (e : Ed) (vb ve : Value) (w : World) (hb : OwnB w base vb b) (he : Bs w ve e.bytes) (hok : e.ok) (hlen : b.length ≤ 1048576) (hbase : base ≤ w.heap.size) (hk : e.kind = 3) :
    Calls Try.prog 18 #[vb, .agg (edA e ve)] w fun x w' => ∃ v', x = .returned v' ∧ OwnB w' base v' (oneM b e) ∧ Grew w w' := by
  obtain ⟨kd, at', n, to, bytes⟩ := e
  obtain rfl : kd = 3 := hk
  obtain ⟨-, ok2, ok3, ok4, ok5⟩ := hok
  simp only at ok2 ok3 ok4 ok5 he
  obtain ⟨ab, cb, rfl, hc1, hc2⟩ : ∃ a c, vb = .slice a b.length c ∧ b.length ≤ c ∧ c ≤ 9223372036854775807 := by
    obtain ⟨a, c, e, q1, q2, _⟩ := (Sl.of_own hb).open
    unfold maxLen at q2
    exact ⟨a, c, e, q1, by omega⟩
  obtain ⟨ae, ce, rfl⟩ := bs_len he
  obtain ⟨e, hed⟩ : ∃ e : Ed, e = ⟨3, at', n, to, bytes⟩ := ⟨_, rfl⟩
  have hp := eAt_le b e
  have hc := eN_le b e
  have e1 : restN at' (b.length + 1) = eAt b e := by rw [hed]; rfl
  have e2 : restN n (b.length - eAt b e + 1) = eN b e := by rw [hed]; rfl
  have K1 := Lib.hid (fun W kI hkI => srest_any at' kI (b.length + 1) hkI (by omega) (by omega) ok2.1 ok2.2 W)
  have K2 := Lib.hid (fun W kI hkI => srest_any n kI (b.length - eAt b e + 1) hkI (by omega) (by omega) ok3.1 ok3.2 W)
  rw [e1] at K1
  rw [e2] at K2
  rw [← hed]
  have HB := Lib.hid hb
  have HE := Lib.hid he
  have hM : oneM b e = b.take (eAt b e) ++ ((b.drop (eAt b e)).take (eN b e) ++ ((b.drop (eAt b e)).take (eN b e) ++ b.drop (eAt b e + eN b e))) := by
    unfold oneM
    rw [hed]
    simp only [show ¬ ((3 : Int) = 1) by decide, show ¬ ((3 : Int) = 2) by decide, if_false, if_true]
    rw [← hed, List.take_add, List.append_assoc, ← List.drop_drop, List.take_append_drop]
  have HM := Lib.hid hM
  clear hM e1 e2 hb he
  generalize hpp : eAt b e = p at *
  generalize hcc : eN b e = c at *
  clear hpp hcc
  rw [HM.out]
  simp only [edA, hed]
  clear hed
  have z1 : (p : Int) ≤ (b.length : Int) := by omega
  have z2 : (p : Int) + (c : Int) ≤ (b.length : Int) := by omega
  have z4 : (p : Int) + (c : Int) ≤ (cb : Int) := by omega
  have z5 : (p : Int) ≤ (cb : Int) := by omega
  have z6 : ((p : Int) + (c : Int)).toNat = p + c := by omega
  have z7 : IntKind.i64.wrap ((p : Int) + (c : Int)) = (p : Int) + (c : Int) := by rw [IntKind.wrap_i64]; omega
  have z8 : (0 : Int) ≤ (p : Int) + (c : Int) := by omega
  have hcases : (c = 0 ∧ cb = p + c) ∨ (c = 0 ∧ ¬ cb = p) ∨ (¬ p + c = p ∧ cb = p + c) ∨ (¬ p + c = p ∧ ¬ cb = p + c) := by omega
  rcases hcases with ⟨rfl, hcb⟩ | ⟨rfl, hcb⟩ | ⟨hc0, rfl⟩ | ⟨hc0, hcb⟩
  · obtain rfl : p = b.length := by omega
    obtain rfl : cb = b.length := by omega
    clear hcb
    go_enter Try.func18, Try.ntmps18
    go_wp2_with fail
    refine (K1.out _ _ (by omega)).mono ?_
    rintro x w1 ⟨rfl, rfl⟩
    go_wp2_with fail
    refine (K2.out _ _ (by omega)).mono ?_
    rintro x w1 ⟨rfl, rfl⟩
    go_wp2_with fail
    go_quiet (fail)
    obtain ⟨W0, hW0⟩ : ∃ W0, W0 = (w.alloc (.cells #[.int .i64 3, .int .i64 at', .int .i64 n, .int .i64 to, .slice ae bytes.length ce] 32)).drewN nq := ⟨_, rfl⟩
    have gW : Grew w W0 := by rw [hW0]; exact (grew_alloc w _).trans (Drew.grew ⟨nq, rfl⟩)
    have kW : Blk W0 w.heap.size 32 #[.int .i64 3, .int .i64 at', .int .i64 n, .int .i64 to, .slice ae bytes.length ce] := by rw [hW0]; exact (Blk.new w _ _).drewN nq
    rw [← hW0]
    clear hW0
    have x0 : W0.cell? ⟨w.heap.size, 0, none⟩ = some (.int .i64 3) := kW.cell 0
    have x3 : W0.cell? ⟨w.heap.size, 3, none⟩ = some (.int .i64 to) := kW.cell 3
    have x4 : W0.cell? ⟨w.heap.size, 4, none⟩ = some (.slice ae bytes.length ce) := kW.cell 4
    go_wp2_with fail
    refine (concat_lit [(_, b.take b.length), (_, (b.drop b.length).take 0), (_, (b.drop b.length).take 0), (_, b.drop (b.length + 0))] 4 rfl (by omega) _ rfl _ W0 ?_ ?_).mono ?_
    · intro q hq
      simp only [List.mem_cons, List.not_mem_nil, or_false] at hq
      rcases hq with rfl | rfl | rfl | rfl
      · exact (pay_head HB.out hc1 hp).bs.grew gW
      · exact (pay_own HB.out hc1 hc _ (by first | exact .inl ⟨rfl, rfl⟩ | exact .inr rfl)).bs.grew gW
      · exact (pay_own HB.out hc1 hc _ (by first | exact .inl ⟨rfl, rfl⟩ | exact .inr rfl)).bs.grew gW
      · exact (pay_tail HB.out hc1 hc _ (by first | exact .inl ⟨rfl, rfl⟩ | exact .inr rfl | exact .inl ⟨rfl, by rw [show b.length - (b.length + 0) = 0 by omega]⟩)).bs.grew gW
    · simp [catl]; omega
    rintro x w2 ⟨v2, rfl, o2, g2⟩
    simp only [catl, List.flatMap_cons, List.flatMap_nil, List.append_nil] at o2
    go_wp2
    go_ret
    exact ⟨_, rfl, own_mono o2 (by have := gW.size; omega), gW.trans g2⟩
  · go_enter Try.func18, Try.ntmps18
    go_wp2_with fail
    refine (K1.out _ _ (by omega)).mono ?_
    rintro x w1 ⟨rfl, rfl⟩
    go_wp2_with fail
    refine (K2.out _ _ (by omega)).mono ?_
    rintro x w1 ⟨rfl, rfl⟩
    go_wp2_with fail
    go_quiet (fail)
    obtain ⟨W0, hW0⟩ : ∃ W0, W0 = (w.alloc (.cells #[.int .i64 3, .int .i64 at', .int .i64 n, .int .i64 to, .slice ae bytes.length ce] 32)).drewN nq := ⟨_, rfl⟩
    have gW : Grew w W0 := by rw [hW0]; exact (grew_alloc w _).trans (Drew.grew ⟨nq, rfl⟩)
    have kW : Blk W0 w.heap.size 32 #[.int .i64 3, .int .i64 at', .int .i64 n, .int .i64 to, .slice ae bytes.length ce] := by rw [hW0]; exact (Blk.new w _ _).drewN nq
    rw [← hW0]
    clear hW0
    have x0 : W0.cell? ⟨w.heap.size, 0, none⟩ = some (.int .i64 3) := kW.cell 0
    have x3 : W0.cell? ⟨w.heap.size, 3, none⟩ = some (.int .i64 to) := kW.cell 3
    have x4 : W0.cell? ⟨w.heap.size, 4, none⟩ = some (.slice ae bytes.length ce) := kW.cell 4
    go_wp2_with fail
    refine (concat_lit [(_, b.take p), (_, (b.drop p).take 0), (_, (b.drop p).take 0), (_, b.drop (p + 0))] 4 rfl (by omega) _ rfl _ W0 ?_ ?_).mono ?_
    · intro q hq
      simp only [List.mem_cons, List.not_mem_nil, or_false] at hq
      rcases hq with rfl | rfl | rfl | rfl
      · exact (pay_head HB.out hc1 hp).bs.grew gW
      · exact (pay_own HB.out hc1 hc _ (by first | exact .inl ⟨rfl, rfl⟩ | exact .inr rfl)).bs.grew gW
      · exact (pay_own HB.out hc1 hc _ (by first | exact .inl ⟨rfl, rfl⟩ | exact .inr rfl)).bs.grew gW
      · exact (pay_tail HB.out hc1 hc _ (by first | exact .inl ⟨rfl, rfl⟩ | exact .inr rfl | exact .inl ⟨rfl, by rw [show b.length - (p + 0) = 0 by omega]⟩)).bs.grew gW
    · simp [catl]; omega
    rintro x w2 ⟨v2, rfl, o2, g2⟩
    simp only [catl, List.flatMap_cons, List.flatMap_nil, List.append_nil] at o2
    go_wp2
    go_ret
    exact ⟨_, rfl, own_mono o2 (by have := gW.size; omega), gW.trans g2⟩
  · go_enter Try.func18, Try.ntmps18
    go_wp2_with fail
    refine (K1.out _ _ (by omega)).mono ?_
    rintro x w1 ⟨rfl, rfl⟩
    go_wp2_with fail
    refine (K2.out _ _ (by omega)).mono ?_
    rintro x w1 ⟨rfl, rfl⟩
    go_wp2_with fail
    go_quiet (fail)
    obtain ⟨W0, hW0⟩ : ∃ W0, W0 = (w.alloc (.cells #[.int .i64 3, .int .i64 at', .int .i64 n, .int .i64 to, .slice ae bytes.length ce] 32)).drewN nq := ⟨_, rfl⟩
    have gW : Grew w W0 := by rw [hW0]; exact (grew_alloc w _).trans (Drew.grew ⟨nq, rfl⟩)
    have kW : Blk W0 w.heap.size 32 #[.int .i64 3, .int .i64 at', .int .i64 n, .int .i64 to, .slice ae bytes.length ce] := by rw [hW0]; exact (Blk.new w _ _).drewN nq
    rw [← hW0]
    clear hW0
    have x0 : W0.cell? ⟨w.heap.size, 0, none⟩ = some (.int .i64 3) := kW.cell 0
    have x3 : W0.cell? ⟨w.heap.size, 3, none⟩ = some (.int .i64 to) := kW.cell 3
    have x4 : W0.cell? ⟨w.heap.size, 4, none⟩ = some (.slice ae bytes.length ce) := kW.cell 4
    go_wp2_with fail
    refine (concat_lit [(_, b.take p), (_, (b.drop p).take c), (_, (b.drop p).take c), (_, b.drop (p + c))] 4 rfl (by omega) _ rfl _ W0 ?_ ?_).mono ?_
    · intro q hq
      simp only [List.mem_cons, List.not_mem_nil, or_false] at hq
      rcases hq with rfl | rfl | rfl | rfl
      · exact (pay_head HB.out hc1 hp).bs.grew gW
      · exact (pay_own HB.out hc1 hc _ (by first | exact .inl ⟨rfl, rfl⟩ | exact .inr rfl)).bs.grew gW
      · exact (pay_own HB.out hc1 hc _ (by first | exact .inl ⟨rfl, rfl⟩ | exact .inr rfl)).bs.grew gW
      · exact (pay_tail HB.out hc1 hc _ (by first | exact .inl ⟨rfl, rfl⟩ | exact .inr rfl | exact .inl ⟨rfl, by rw [show b.length - (p + c) = 0 by omega]⟩)).bs.grew gW
    · simp [catl]; omega
    rintro x w2 ⟨v2, rfl, o2, g2⟩
    simp only [catl, List.flatMap_cons, List.flatMap_nil, List.append_nil] at o2
    go_wp2
    go_ret
    exact ⟨_, rfl, own_mono o2 (by have := gW.size; omega), gW.trans g2⟩
  · go_enter Try.func18, Try.ntmps18
    go_wp2_with fail
    refine (K1.out _ _ (by omega)).mono ?_
    rintro x w1 ⟨rfl, rfl⟩
    go_wp2_with fail
    refine (K2.out _ _ (by omega)).mono ?_
    rintro x w1 ⟨rfl, rfl⟩
    go_wp2_with fail
    go_quiet (fail)
    obtain ⟨W0, hW0⟩ : ∃ W0, W0 = (w.alloc (.cells #[.int .i64 3, .int .i64 at', .int .i64 n, .int .i64 to, .slice ae bytes.length ce] 32)).drewN nq := ⟨_, rfl⟩
    have gW : Grew w W0 := by rw [hW0]; exact (grew_alloc w _).trans (Drew.grew ⟨nq, rfl⟩)
    have kW : Blk W0 w.heap.size 32 #[.int .i64 3, .int .i64 at', .int .i64 n, .int .i64 to, .slice ae bytes.length ce] := by rw [hW0]; exact (Blk.new w _ _).drewN nq
    rw [← hW0]
    clear hW0
    have x0 : W0.cell? ⟨w.heap.size, 0, none⟩ = some (.int .i64 3) := kW.cell 0
    have x3 : W0.cell? ⟨w.heap.size, 3, none⟩ = some (.int .i64 to) := kW.cell 3
    have x4 : W0.cell? ⟨w.heap.size, 4, none⟩ = some (.slice ae bytes.length ce) := kW.cell 4
    go_wp2_with fail
    refine (concat_lit [(_, b.take p), (_, (b.drop p).take c), (_, (b.drop p).take c), (_, b.drop (p + c))] 4 rfl (by omega) _ rfl _ W0 ?_ ?_).mono ?_
    · intro q hq
      simp only [List.mem_cons, List.not_mem_nil, or_false] at hq
      rcases hq with rfl | rfl | rfl | rfl
      · exact (pay_head HB.out hc1 hp).bs.grew gW
      · exact (pay_own HB.out hc1 hc _ (by first | exact .inl ⟨rfl, rfl⟩ | exact .inr rfl)).bs.grew gW
      · exact (pay_own HB.out hc1 hc _ (by first | exact .inl ⟨rfl, rfl⟩ | exact .inr rfl)).bs.grew gW
      · exact (pay_tail HB.out hc1 hc _ (by first | exact .inl ⟨rfl, rfl⟩ | exact .inr rfl | exact .inl ⟨rfl, by rw [show b.length - (p + c) = 0 by omega]⟩)).bs.grew gW
    · simp [catl]; omega
    rintro x w2 ⟨v2, rfl, o2, g2⟩
    simp only [catl, List.flatMap_cons, List.flatMap_nil, List.append_nil] at o2
    go_wp2
    go_ret
    exact ⟨_, rfl, own_mono o2 (by have := gW.size; omega), gW.trans g2⟩
set_option maxRecDepth 100000 in
set_option maxHeartbeats 8000000 in
theorem sone_4 (base : Nat) (b : List UInt8) (e : Ed) (vb ve : Value) (w : World) (hb : OwnB w base vb b) (he : Bs w ve e.bytes) (hok : e.ok) (hlen : b.length ≤ 1048576) (hbase : base ≤ w.heap.size) (hk : e.kind = 4) :
    Calls Try.prog 18 #[vb, .agg (edA e ve)] w fun x w' => ∃ v', x = .returned v' ∧ OwnB w' base v' (oneM b e) ∧ Grew w w' := by
  obtain ⟨kd, at', n, to, bytes⟩ := e
  obtain rfl : kd = 4 := hk
  obtain ⟨-, ok2, ok3, ok4, ok5⟩ := hok
  simp only at ok2 ok3 ok4 ok5 he
  obtain ⟨ab, cb, rfl, hc1, hc2⟩ : ∃ a c, vb = .slice a b.length c ∧ b.length ≤ c ∧ c ≤ 9223372036854775807 := by
    obtain ⟨a, c, e, q1, q2, _⟩ := (Sl.of_own hb).open
    unfold maxLen at q2
    exact ⟨a, c, e, q1, by omega⟩
  obtain ⟨ae, ce, rfl⟩ := bs_len he
  obtain ⟨e, hed⟩ : ∃ e : Ed, e = ⟨4, at', n, to, bytes⟩ := ⟨_, rfl⟩
  have hp := eAt_le b e
  have hc := eN_le b e
  have e1 : restN at' (b.length + 1) = eAt b e := by rw [hed]; rfl
  have e2 : restN n (b.length - eAt b e + 1) = eN b e := by rw [hed]; rfl
  have K1 := Lib.hid (fun W kI hkI => srest_any at' kI (b.length + 1) hkI (by omega) (by omega) ok2.1 ok2.2 W)
  have K2 := Lib.hid (fun W kI hkI => srest_any n kI (b.length - eAt b e + 1) hkI (by omega) (by omega) ok3.1 ok3.2 W)
  rw [e1] at K1
  rw [e2] at K2
  rw [← hed]
  have HB := Lib.hid hb
  have HE := Lib.hid he
  have hM : oneM b e = b.take (eAt b e) ++ (bytes.take 10000 ++ ((b.drop (eAt b e)).take (eN b e) ++ b.drop (eAt b e + eN b e))) := by
    unfold oneM
    rw [hed]
    simp only [show ¬ ((4 : Int) = 1) by decide, show ¬ ((4 : Int) = 2) by decide, show ¬ ((4 : Int) = 3) by decide, if_false, if_true]
    rw [← hed, ← List.drop_drop, List.take_append_drop, List.append_assoc]
  have hq0 : (min (bytes.length : Int) 10000).toNat = min bytes.length 10000 := by omega
  have hq1 : (0 : Int) ≤ min (bytes.length : Int) 10000 := by omega
  have hq2 : min (bytes.length : Int) 10000 ≤ (ce : Int) := by
    obtain ⟨_, _, e, q1, _⟩ := he.open
    simp only [Value.slice.injEq] at e
    omega
  have HM := Lib.hid hM
  clear hM e1 e2 hb he
  generalize hpp : eAt b e = p at *
  generalize hcc : eN b e = c at *
  clear hpp hcc
  rw [HM.out]
  simp only [edA, hed]
  clear hed
  have z1 : (p : Int) ≤ (b.length : Int) := by omega
  have z2 : (p : Int) + (c : Int) ≤ (b.length : Int) := by omega
  have z4 : (p : Int) + (c : Int) ≤ (cb : Int) := by omega
  have z5 : (p : Int) ≤ (cb : Int) := by omega
  have z6 : ((p : Int) + (c : Int)).toNat = p + c := by omega
  have z7 : IntKind.i64.wrap ((p : Int) + (c : Int)) = (p : Int) + (c : Int) := by rw [IntKind.wrap_i64]; omega
  have z8 : (0 : Int) ≤ (p : Int) + (c : Int) := by omega
  have hcases : (c = 0 ∧ cb = p + c) ∨ (c = 0 ∧ ¬ cb = p) ∨ (¬ p + c = p ∧ cb = p + c) ∨ (¬ p + c = p ∧ ¬ cb = p + c) := by omega
  rcases hcases with ⟨rfl, hcb⟩ | ⟨rfl, hcb⟩ | ⟨hc0, rfl⟩ | ⟨hc0, hcb⟩
  · obtain rfl : p = b.length := by omega
    obtain rfl : cb = b.length := by omega
    clear hcb
    go_enter Try.func18, Try.ntmps18
    go_wp2_with fail
    refine (K1.out _ _ (by omega)).mono ?_
    rintro x w1 ⟨rfl, rfl⟩
    go_wp2_with fail
    refine (K2.out _ _ (by omega)).mono ?_
    rintro x w1 ⟨rfl, rfl⟩
    go_wp2_with fail
    go_quiet (fail)
    obtain ⟨W0, hW0⟩ : ∃ W0, W0 = (w.alloc (.cells #[.int .i64 4, .int .i64 at', .int .i64 n, .int .i64 to, .slice ae bytes.length ce] 32)).drewN nq := ⟨_, rfl⟩
    have gW : Grew w W0 := by rw [hW0]; exact (grew_alloc w _).trans (Drew.grew ⟨nq, rfl⟩)
    have kW : Blk W0 w.heap.size 32 #[.int .i64 4, .int .i64 at', .int .i64 n, .int .i64 to, .slice ae bytes.length ce] := by rw [hW0]; exact (Blk.new w _ _).drewN nq
    rw [← hW0]
    clear hW0
    have x0 : W0.cell? ⟨w.heap.size, 0, none⟩ = some (.int .i64 4) := kW.cell 0
    have x3 : W0.cell? ⟨w.heap.size, 3, none⟩ = some (.int .i64 to) := kW.cell 3
    have x4 : W0.cell? ⟨w.heap.size, 4, none⟩ = some (.slice ae bytes.length ce) := kW.cell 4
    go_wp2_with fail
    refine (concat_lit [(_, b.take b.length), (_, bytes.take 10000), (_, (b.drop b.length).take 0), (_, b.drop (b.length + 0))] 4 rfl (by omega) _ rfl _ W0 ?_ ?_).mono ?_
    · intro q hq
      simp only [List.mem_cons, List.not_mem_nil, or_false] at hq
      rcases hq with rfl | rfl | rfl | rfl
      · exact (pay_head HB.out hc1 hp).bs.grew gW
      · have := bs_take HE.out (min bytes.length 10000) (by omega)
        rw [List.take_eq_take_iff.2 (show min (min bytes.length 10000) bytes.length = min 10000 bytes.length by omega)] at this
        exact this.grew gW
      · exact (pay_own HB.out hc1 hc _ (by first | exact .inl ⟨rfl, rfl⟩ | exact .inr rfl)).bs.grew gW
      · exact (pay_tail HB.out hc1 hc _ (by first | exact .inl ⟨rfl, rfl⟩ | exact .inr rfl | exact .inl ⟨rfl, by rw [show b.length - (b.length + 0) = 0 by omega]⟩)).bs.grew gW
    · simp [catl]; omega
    rintro x w2 ⟨v2, rfl, o2, g2⟩
    simp only [catl, List.flatMap_cons, List.flatMap_nil, List.append_nil] at o2
    go_wp2
    go_ret
    exact ⟨_, rfl, own_mono o2 (by have := gW.size; omega), gW.trans g2⟩
  · go_enter Try.func18, Try.ntmps18
    go_wp2_with fail
    refine (K1.out _ _ (by omega)).mono ?_
    rintro x w1 ⟨rfl, rfl⟩
    go_wp2_with fail
    refine (K2.out _ _ (by omega)).mono ?_
    rintro x w1 ⟨rfl, rfl⟩
    go_wp2_with fail
    go_quiet (fail)
    obtain ⟨W0, hW0⟩ : ∃ W0, W0 = (w.alloc (.cells #[.int .i64 4, .int .i64 at', .int .i64 n, .int .i64 to, .slice ae bytes.length ce] 32)).drewN nq := ⟨_, rfl⟩
    have gW : Grew w W0 := by rw [hW0]; exact (grew_alloc w _).trans (Drew.grew ⟨nq, rfl⟩)
    have kW : Blk W0 w.heap.size 32 #[.int .i64 4, .int .i64 at', .int .i64 n, .int .i64 to, .slice ae bytes.length ce] := by rw [hW0]; exact (Blk.new w _ _).drewN nq
    rw [← hW0]
    clear hW0
    have x0 : W0.cell? ⟨w.heap.size, 0, none⟩ = some (.int .i64 4) := kW.cell 0
    have x3 : W0.cell? ⟨w.heap.size, 3, none⟩ = some (.int .i64 to) := kW.cell 3
    have x4 : W0.cell? ⟨w.heap.size, 4, none⟩ = some (.slice ae bytes.length ce) := kW.cell 4
    go_wp2_with fail
    refine (concat_lit [(_, b.take p), (_, bytes.take 10000), (_, (b.drop p).take 0), (_, b.drop (p + 0))] 4 rfl (by omega) _ rfl _ W0 ?_ ?_).mono ?_
    · intro q hq
      simp only [List.mem_cons, List.not_mem_nil, or_false] at hq
      rcases hq with rfl | rfl | rfl | rfl
      · exact (pay_head HB.out hc1 hp).bs.grew gW
      · have := bs_take HE.out (min bytes.length 10000) (by omega)
        rw [List.take_eq_take_iff.2 (show min (min bytes.length 10000) bytes.length = min 10000 bytes.length by omega)] at this
        exact this.grew gW
      · exact (pay_own HB.out hc1 hc _ (by first | exact .inl ⟨rfl, rfl⟩ | exact .inr rfl)).bs.grew gW
      · exact (pay_tail HB.out hc1 hc _ (by first | exact .inl ⟨rfl, rfl⟩ | exact .inr rfl | exact .inl ⟨rfl, by rw [show b.length - (p + 0) = 0 by omega]⟩)).bs.grew gW
    · simp [catl]; omega
    rintro x w2 ⟨v2, rfl, o2, g2⟩
    simp only [catl, List.flatMap_cons, List.flatMap_nil, List.append_nil] at o2
    go_wp2
    go_ret
    exact ⟨_, rfl, own_mono o2 (by have := gW.size; omega), gW.trans g2⟩
  · go_enter Try.func18, Try.ntmps18
    go_wp2_with fail
    refine (K1.out _ _ (by omega)).mono ?_
    rintro x w1 ⟨rfl, rfl⟩
    go_wp2_with fail
    refine (K2.out _ _ (by omega)).mono ?_
    rintro x w1 ⟨rfl, rfl⟩
    go_wp2_with fail
    go_quiet (fail)
    obtain ⟨W0, hW0⟩ : ∃ W0, W0 = (w.alloc (.cells #[.int .i64 4, .int .i64 at', .int .i64 n, .int .i64 to, .slice ae bytes.length ce] 32)).drewN nq := ⟨_, rfl⟩
    have gW : Grew w W0 := by rw [hW0]; exact (grew_alloc w _).trans (Drew.grew ⟨nq, rfl⟩)
    have kW : Blk W0 w.heap.size 32 #[.int .i64 4, .int .i64 at', .int .i64 n, .int .i64 to, .slice ae bytes.length ce] := by rw [hW0]; exact (Blk.new w _ _).drewN nq
    rw [← hW0]
    clear hW0
    have x0 : W0.cell? ⟨w.heap.size, 0, none⟩ = some (.int .i64 4) := kW.cell 0
    have x3 : W0.cell? ⟨w.heap.size, 3, none⟩ = some (.int .i64 to) := kW.cell 3
    have x4 : W0.cell? ⟨w.heap.size, 4, none⟩ = some (.slice ae bytes.length ce) := kW.cell 4
    go_wp2_with fail
    refine (concat_lit [(_, b.take p), (_, bytes.take 10000), (_, (b.drop p).take c), (_, b.drop (p + c))] 4 rfl (by omega) _ rfl _ W0 ?_ ?_).mono ?_
    · intro q hq
      simp only [List.mem_cons, List.not_mem_nil, or_false] at hq
      rcases hq with rfl | rfl | rfl | rfl
      · exact (pay_head HB.out hc1 hp).bs.grew gW
      · have := bs_take HE.out (min bytes.length 10000) (by omega)
        rw [List.take_eq_take_iff.2 (show min (min bytes.length 10000) bytes.length = min 10000 bytes.length by omega)] at this
        exact this.grew gW
      · exact (pay_own HB.out hc1 hc _ (by first | exact .inl ⟨rfl, rfl⟩ | exact .inr rfl)).bs.grew gW
      · exact (pay_tail HB.out hc1 hc _ (by first | exact .inl ⟨rfl, rfl⟩ | exact .inr rfl | exact .inl ⟨rfl, by rw [show b.length - (p + c) = 0 by omega]⟩)).bs.grew gW
    · simp [catl]; omega
    rintro x w2 ⟨v2, rfl, o2, g2⟩
    simp only [catl, List.flatMap_cons, List.flatMap_nil, List.append_nil] at o2
    go_wp2
    go_ret
    exact ⟨_, rfl, own_mono o2 (by have := gW.size; omega), gW.trans g2⟩
  · go_enter Try.func18, Try.ntmps18
    go_wp2_with fail
    refine (K1.out _ _ (by omega)).mono ?_
    rintro x w1 ⟨rfl, rfl⟩
    go_wp2_with fail
    refine (K2.out _ _ (by omega)).mono ?_
    rintro x w1 ⟨rfl, rfl⟩
    go_wp2_with fail
    go_quiet (fail)
    obtain ⟨W0, hW0⟩ : ∃ W0, W0 = (w.alloc (.cells #[.int .i64 4, .int .i64 at', .int .i64 n, .int .i64 to, .slice ae bytes.length ce] 32)).drewN nq := ⟨_, rfl⟩
    have gW : Grew w W0 := by rw [hW0]; exact (grew_alloc w _).trans (Drew.grew ⟨nq, rfl⟩)
    have kW : Blk W0 w.heap.size 32 #[.int .i64 4, .int .i64 at', .int .i64 n, .int .i64 to, .slice ae bytes.length ce] := by rw [hW0]; exact (Blk.new w _ _).drewN nq
    rw [← hW0]
    clear hW0
    have x0 : W0.cell? ⟨w.heap.size, 0, none⟩ = some (.int .i64 4) := kW.cell 0
    have x3 : W0.cell? ⟨w.heap.size, 3, none⟩ = some (.int .i64 to) := kW.cell 3
    have x4 : W0.cell? ⟨w.heap.size, 4, none⟩ = some (.slice ae bytes.length ce) := kW.cell 4
    go_wp2_with fail
    refine (concat_lit [(_, b.take p), (_, bytes.take 10000), (_, (b.drop p).take c), (_, b.drop (p + c))] 4 rfl (by omega) _ rfl _ W0 ?_ ?_).mono ?_
    · intro q hq
      simp only [List.mem_cons, List.not_mem_nil, or_false] at hq
      rcases hq with rfl | rfl | rfl | rfl
      · exact (pay_head HB.out hc1 hp).bs.grew gW
      · have := bs_take HE.out (min bytes.length 10000) (by omega)
        rw [List.take_eq_take_iff.2 (show min (min bytes.length 10000) bytes.length = min 10000 bytes.length by omega)] at this
        exact this.grew gW
      · exact (pay_own HB.out hc1 hc _ (by first | exact .inl ⟨rfl, rfl⟩ | exact .inr rfl)).bs.grew gW
      · exact (pay_tail HB.out hc1 hc _ (by first | exact .inl ⟨rfl, rfl⟩ | exact .inr rfl | exact .inl ⟨rfl, by rw [show b.length - (p + c) = 0 by omega]⟩)).bs.grew gW
    · simp [catl]; omega
    rintro x w2 ⟨v2, rfl, o2, g2⟩
    simp only [catl, List.flatMap_cons, List.flatMap_nil, List.append_nil] at o2
    go_wp2
    go_ret
    exact ⟨_, rfl, own_mono o2 (by have := gW.size; omega), gW.trans g2⟩
set_option maxRecDepth 100000 in
set_option maxHeartbeats 8000000 in
theorem sone_5 (base : Nat) (b : List UInt8) (e : Ed) (vb ve : Value) (w : World) (hb : OwnB w base vb b) (he : Bs w ve e.bytes) (hok : e.ok) (hlen : b.length ≤ 1048576) (hbase : base ≤ w.heap.size) (hk : e.kind = 5) :
    Calls Try.prog 18 #[vb, .agg (edA e ve)] w fun x w' => ∃ v', x = .returned v' ∧ OwnB w' base v' (oneM b e) ∧ Grew w w' := by
  obtain ⟨kd, at', n, to, bytes⟩ := e
  obtain rfl : kd = 5 := hk
  obtain ⟨-, ok2, ok3, ok4, ok5⟩ := hok
  simp only at ok2 ok3 ok4 ok5 he
  obtain ⟨ab, cb, rfl, hc1, hc2⟩ : ∃ a c, vb = .slice a b.length c ∧ b.length ≤ c ∧ c ≤ 9223372036854775807 := by
    obtain ⟨a, c, e, q1, q2, _⟩ := (Sl.of_own hb).open
    unfold maxLen at q2
    exact ⟨a, c, e, q1, by omega⟩
  obtain ⟨ae, ce, rfl⟩ := bs_len he
  obtain ⟨e, hed⟩ : ∃ e : Ed, e = ⟨5, at', n, to, bytes⟩ := ⟨_, rfl⟩
  have hp := eAt_le b e
  have hc := eN_le b e
  have e1 : restN at' (b.length + 1) = eAt b e := by rw [hed]; rfl
  have e2 : restN n (b.length - eAt b e + 1) = eN b e := by rw [hed]; rfl
  have K1 := Lib.hid (fun W kI hkI => srest_any at' kI (b.length + 1) hkI (by omega) (by omega) ok2.1 ok2.2 W)
  have K2 := Lib.hid (fun W kI hkI => srest_any n kI (b.length - eAt b e + 1) hkI (by omega) (by omega) ok3.1 ok3.2 W)
  rw [e1] at K1
  rw [e2] at K2
  rw [← hed]
  have HB := Lib.hid hb
  have HE := Lib.hid he
  have hM : oneM b e = (eLeft b e).take (eTo b e) ++ eOwn b e ++ (eLeft b e).drop (eTo b e) := by
    unfold oneM
    rw [hed]
    simp only [show ¬ ((5 : Int) = 1) by decide, show ¬ ((5 : Int) = 2) by decide, show ¬ ((5 : Int) = 3) by decide, show ¬ ((5 : Int) = 4) by decide, if_false, if_true]
  have hL : eLeft b e = b.take (eAt b e) ++ b.drop (eAt b e + eN b e) := rfl
  have hO : eOwn b e = (b.drop (eAt b e)).take (eN b e) := rfl
  have hT : eTo b e = restN to ((eLeft b e).length + 1) := by rw [hed]; rfl
  have K5 := Lib.hid (fun W kI hkI => srest_any to kI ((eLeft b e).length + 1) hkI (by omega) (by have := eLeft_len b e; omega) ok4.1 ok4.2 W)
  have hll : (eLeft b e).length ≤ b.length := by have := eLeft_len b e; omega
  have hol : (eOwn b e).length ≤ b.length := by rw [eOwn_len]; omega
  have htl : eTo b e ≤ (eLeft b e).length := by rw [hT]; have := restN_lt to (k := (eLeft b e).length + 1) (by omega); omega
  rw [← hT] at K5
  generalize eTo b e = T at hM K5 htl
  clear hT
  generalize eLeft b e = L at hM hL K5 hll htl
  generalize eOwn b e = O at hM hO hol
  have HL := Lib.hid hL
  have HO := Lib.hid hO
  clear hL hO
  have HM := Lib.hid hM
  clear hM e1 e2 hb he
  generalize hpp : eAt b e = p at *
  generalize hcc : eN b e = c at *
  clear hpp hcc
  rw [HM.out]
  simp only [edA, hed]
  clear hed
  have z1 : (p : Int) ≤ (b.length : Int) := by omega
  have z2 : (p : Int) + (c : Int) ≤ (b.length : Int) := by omega
  have z4 : (p : Int) + (c : Int) ≤ (cb : Int) := by omega
  have z5 : (p : Int) ≤ (cb : Int) := by omega
  have z6 : ((p : Int) + (c : Int)).toNat = p + c := by omega
  have z7 : IntKind.i64.wrap ((p : Int) + (c : Int)) = (p : Int) + (c : Int) := by rw [IntKind.wrap_i64]; omega
  have z8 : (0 : Int) ≤ (p : Int) + (c : Int) := by omega
  have hcases : (c = 0 ∧ cb = p + c) ∨ (c = 0 ∧ ¬ cb = p) ∨ (¬ p + c = p ∧ cb = p + c) ∨ (¬ p + c = p ∧ ¬ cb = p + c) := by omega
  rcases hcases with ⟨rfl, hcb⟩ | ⟨rfl, hcb⟩ | ⟨hc0, rfl⟩ | ⟨hc0, hcb⟩
  · obtain rfl : p = b.length := by omega
    obtain rfl : cb = b.length := by omega
    clear hcb
    go_enter Try.func18, Try.ntmps18
    go_wp2_with fail
    refine (K1.out _ _ (by omega)).mono ?_
    rintro x w1 ⟨rfl, rfl⟩
    go_wp2_with fail
    refine (K2.out _ _ (by omega)).mono ?_
    rintro x w1 ⟨rfl, rfl⟩
    go_wp2_with fail
    go_quiet (fail)
    obtain ⟨W0, hW0⟩ : ∃ W0, W0 = (w.alloc (.cells #[.int .i64 5, .int .i64 at', .int .i64 n, .int .i64 to, .slice ae bytes.length ce] 32)).drewN nq := ⟨_, rfl⟩
    have gW : Grew w W0 := by rw [hW0]; exact (grew_alloc w _).trans (Drew.grew ⟨nq, rfl⟩)
    have kW : Blk W0 w.heap.size 32 #[.int .i64 5, .int .i64 at', .int .i64 n, .int .i64 to, .slice ae bytes.length ce] := by rw [hW0]; exact (Blk.new w _ _).drewN nq
    rw [← hW0]
    clear hW0
    have x0 : W0.cell? ⟨w.heap.size, 0, none⟩ = some (.int .i64 5) := kW.cell 0
    have x3 : W0.cell? ⟨w.heap.size, 3, none⟩ = some (.int .i64 to) := kW.cell 3
    have x4 : W0.cell? ⟨w.heap.size, 4, none⟩ = some (.slice ae bytes.length ce) := kW.cell 4
    go_wp2_with fail
    refine (concat_lit [(_, b.take b.length), (_, b.drop (b.length + 0))] 2 rfl (by omega) _ rfl _ W0 ?_ ?_).mono ?_
    · intro q hq
      simp only [List.mem_cons, List.not_mem_nil, or_false] at hq
      rcases hq with rfl | rfl
      · exact (pay_head HB.out hc1 hp).bs.grew gW
      · exact (pay_tail HB.out hc1 hc _ (by first | exact .inl ⟨rfl, rfl⟩ | exact .inr rfl | exact .inl ⟨rfl, by rw [show b.length - (b.length + 0) = 0 by omega]⟩)).bs.grew gW
    · simp [catl]; omega
    rintro x w2 ⟨v2, rfl, o2, g2⟩
    simp only [catl, List.flatMap_cons, List.flatMap_nil, List.append_nil] at o2
    rw [← HL.out] at o2
    obtain ⟨a2, c2, rfl⟩ := bs_len (Sl.of_own o2)
    have gW2 := gW.trans g2
    have y3 := (below_ext g2) _ _ x3
    have hbl := own_lt HB.out
    have O2 := Lib.hid o2
    clear o2
    go_wp2_with fail
    refine (K5.out _ _ (by omega)).mono ?_
    rintro x w3 ⟨rfl, rfl⟩
    go_wp2_with fail
    refine (sinsert_any W0.heap.size L O _ _ T w2 htl O2.out (by rw [HO.out]; exact ((pay_own HB.out hc1 hc _ (by first | exact .inl ⟨rfl, rfl⟩ | exact .inr rfl)).grew gW2).mono (by omega)) ?_ (by omega) g2.size).mono ?_
    · intro g hg he
      have h1 := (own_lt O2.out g he).1
      have h2 := ((pay_own HB.out hc1 hc _ (by first | exact .inl ⟨rfl, rfl⟩ | exact .inr rfl)).2 g hg).2
      obtain ⟨cs, h2⟩ := h2
      have := h2.lt
      have := gW.size
      omega
    rintro x w3 ⟨v3, rfl, o3, g3⟩
    go_wp2
    go_ret
    exact ⟨_, rfl, own_mono o3 (by have := gW.size; omega), Below.trans (gW.trans g2) (Below.mono g3 gW.size)⟩
  · go_enter Try.func18, Try.ntmps18
    go_wp2_with fail
    refine (K1.out _ _ (by omega)).mono ?_
    rintro x w1 ⟨rfl, rfl⟩
    go_wp2_with fail
    refine (K2.out _ _ (by omega)).mono ?_
    rintro x w1 ⟨rfl, rfl⟩
    go_wp2_with fail
    go_quiet (fail)
    obtain ⟨W0, hW0⟩ : ∃ W0, W0 = (w.alloc (.cells #[.int .i64 5, .int .i64 at', .int .i64 n, .int .i64 to, .slice ae bytes.length ce] 32)).drewN nq := ⟨_, rfl⟩
    have gW : Grew w W0 := by rw [hW0]; exact (grew_alloc w _).trans (Drew.grew ⟨nq, rfl⟩)
    have kW : Blk W0 w.heap.size 32 #[.int .i64 5, .int .i64 at', .int .i64 n, .int .i64 to, .slice ae bytes.length ce] := by rw [hW0]; exact (Blk.new w _ _).drewN nq
    rw [← hW0]
    clear hW0
    have x0 : W0.cell? ⟨w.heap.size, 0, none⟩ = some (.int .i64 5) := kW.cell 0
    have x3 : W0.cell? ⟨w.heap.size, 3, none⟩ = some (.int .i64 to) := kW.cell 3
    have x4 : W0.cell? ⟨w.heap.size, 4, none⟩ = some (.slice ae bytes.length ce) := kW.cell 4
    go_wp2_with fail
    refine (concat_lit [(_, b.take p), (_, b.drop (p + 0))] 2 rfl (by omega) _ rfl _ W0 ?_ ?_).mono ?_
    · intro q hq
      simp only [List.mem_cons, List.not_mem_nil, or_false] at hq
      rcases hq with rfl | rfl
      · exact (pay_head HB.out hc1 hp).bs.grew gW
      · exact (pay_tail HB.out hc1 hc _ (by first | exact .inl ⟨rfl, rfl⟩ | exact .inr rfl | exact .inl ⟨rfl, by rw [show b.length - (p + 0) = 0 by omega]⟩)).bs.grew gW
    · simp [catl]; omega
    rintro x w2 ⟨v2, rfl, o2, g2⟩
    simp only [catl, List.flatMap_cons, List.flatMap_nil, List.append_nil] at o2
    rw [← HL.out] at o2
    obtain ⟨a2, c2, rfl⟩ := bs_len (Sl.of_own o2)
    have gW2 := gW.trans g2
    have y3 := (below_ext g2) _ _ x3
    have hbl := own_lt HB.out
    have O2 := Lib.hid o2
    clear o2
    go_wp2_with fail
    refine (K5.out _ _ (by omega)).mono ?_
    rintro x w3 ⟨rfl, rfl⟩
    go_wp2_with fail
    refine (sinsert_any W0.heap.size L O _ _ T w2 htl O2.out (by rw [HO.out]; exact ((pay_own HB.out hc1 hc _ (by first | exact .inl ⟨rfl, rfl⟩ | exact .inr rfl)).grew gW2).mono (by omega)) ?_ (by omega) g2.size).mono ?_
    · intro g hg he
      have h1 := (own_lt O2.out g he).1
      have h2 := ((pay_own HB.out hc1 hc _ (by first | exact .inl ⟨rfl, rfl⟩ | exact .inr rfl)).2 g hg).2
      obtain ⟨cs, h2⟩ := h2
      have := h2.lt
      have := gW.size
      omega
    rintro x w3 ⟨v3, rfl, o3, g3⟩
    go_wp2
    go_ret
    exact ⟨_, rfl, own_mono o3 (by have := gW.size; omega), Below.trans (gW.trans g2) (Below.mono g3 gW.size)⟩
  · go_enter Try.func18, Try.ntmps18
    go_wp2_with fail
    refine (K1.out _ _ (by omega)).mono ?_
    rintro x w1 ⟨rfl, rfl⟩
    go_wp2_with fail
    refine (K2.out _ _ (by omega)).mono ?_
    rintro x w1 ⟨rfl, rfl⟩
    go_wp2_with fail
    go_quiet (fail)
    obtain ⟨W0, hW0⟩ : ∃ W0, W0 = (w.alloc (.cells #[.int .i64 5, .int .i64 at', .int .i64 n, .int .i64 to, .slice ae bytes.length ce] 32)).drewN nq := ⟨_, rfl⟩
    have gW : Grew w W0 := by rw [hW0]; exact (grew_alloc w _).trans (Drew.grew ⟨nq, rfl⟩)
    have kW : Blk W0 w.heap.size 32 #[.int .i64 5, .int .i64 at', .int .i64 n, .int .i64 to, .slice ae bytes.length ce] := by rw [hW0]; exact (Blk.new w _ _).drewN nq
    rw [← hW0]
    clear hW0
    have x0 : W0.cell? ⟨w.heap.size, 0, none⟩ = some (.int .i64 5) := kW.cell 0
    have x3 : W0.cell? ⟨w.heap.size, 3, none⟩ = some (.int .i64 to) := kW.cell 3
    have x4 : W0.cell? ⟨w.heap.size, 4, none⟩ = some (.slice ae bytes.length ce) := kW.cell 4
    go_wp2_with fail
    refine (concat_lit [(_, b.take p), (_, b.drop (p + c))] 2 rfl (by omega) _ rfl _ W0 ?_ ?_).mono ?_
    · intro q hq
      simp only [List.mem_cons, List.not_mem_nil, or_false] at hq
      rcases hq with rfl | rfl
      · exact (pay_head HB.out hc1 hp).bs.grew gW
      · exact (pay_tail HB.out hc1 hc _ (by first | exact .inl ⟨rfl, rfl⟩ | exact .inr rfl | exact .inl ⟨rfl, by rw [show b.length - (p + c) = 0 by omega]⟩)).bs.grew gW
    · simp [catl]; omega
    rintro x w2 ⟨v2, rfl, o2, g2⟩
    simp only [catl, List.flatMap_cons, List.flatMap_nil, List.append_nil] at o2
    rw [← HL.out] at o2
    obtain ⟨a2, c2, rfl⟩ := bs_len (Sl.of_own o2)
    have gW2 := gW.trans g2
    have y3 := (below_ext g2) _ _ x3
    have hbl := own_lt HB.out
    have O2 := Lib.hid o2
    clear o2
    go_wp2_with fail
    refine (K5.out _ _ (by omega)).mono ?_
    rintro x w3 ⟨rfl, rfl⟩
    go_wp2_with fail
    refine (sinsert_any W0.heap.size L O _ _ T w2 htl O2.out (by rw [HO.out]; exact ((pay_own HB.out hc1 hc _ (by first | exact .inl ⟨rfl, rfl⟩ | exact .inr rfl)).grew gW2).mono (by omega)) ?_ (by omega) g2.size).mono ?_
    · intro g hg he
      have h1 := (own_lt O2.out g he).1
      have h2 := ((pay_own HB.out hc1 hc _ (by first | exact .inl ⟨rfl, rfl⟩ | exact .inr rfl)).2 g hg).2
      obtain ⟨cs, h2⟩ := h2
      have := h2.lt
      have := gW.size
      omega
    rintro x w3 ⟨v3, rfl, o3, g3⟩
    go_wp2
    go_ret
    exact ⟨_, rfl, own_mono o3 (by have := gW.size; omega), Below.trans (gW.trans g2) (Below.mono g3 gW.size)⟩
  · go_enter Try.func18, Try.ntmps18
    go_wp2_with fail
    refine (K1.out _ _ (by omega)).mono ?_
    rintro x w1 ⟨rfl, rfl⟩
    go_wp2_with fail
    refine (K2.out _ _ (by omega)).mono ?_
    rintro x w1 ⟨rfl, rfl⟩
    go_wp2_with fail
    go_quiet (fail)
    obtain ⟨W0, hW0⟩ : ∃ W0, W0 = (w.alloc (.cells #[.int .i64 5, .int .i64 at', .int .i64 n, .int .i64 to, .slice ae bytes.length ce] 32)).drewN nq := ⟨_, rfl⟩
    have gW : Grew w W0 := by rw [hW0]; exact (grew_alloc w _).trans (Drew.grew ⟨nq, rfl⟩)
    have kW : Blk W0 w.heap.size 32 #[.int .i64 5, .int .i64 at', .int .i64 n, .int .i64 to, .slice ae bytes.length ce] := by rw [hW0]; exact (Blk.new w _ _).drewN nq
    rw [← hW0]
    clear hW0
    have x0 : W0.cell? ⟨w.heap.size, 0, none⟩ = some (.int .i64 5) := kW.cell 0
    have x3 : W0.cell? ⟨w.heap.size, 3, none⟩ = some (.int .i64 to) := kW.cell 3
    have x4 : W0.cell? ⟨w.heap.size, 4, none⟩ = some (.slice ae bytes.length ce) := kW.cell 4
    go_wp2_with fail
    refine (concat_lit [(_, b.take p), (_, b.drop (p + c))] 2 rfl (by omega) _ rfl _ W0 ?_ ?_).mono ?_
    · intro q hq
      simp only [List.mem_cons, List.not_mem_nil, or_false] at hq
      rcases hq with rfl | rfl
      · exact (pay_head HB.out hc1 hp).bs.grew gW
      · exact (pay_tail HB.out hc1 hc _ (by first | exact .inl ⟨rfl, rfl⟩ | exact .inr rfl | exact .inl ⟨rfl, by rw [show b.length - (p + c) = 0 by omega]⟩)).bs.grew gW
    · simp [catl]; omega
    rintro x w2 ⟨v2, rfl, o2, g2⟩
    simp only [catl, List.flatMap_cons, List.flatMap_nil, List.append_nil] at o2
    rw [← HL.out] at o2
    obtain ⟨a2, c2, rfl⟩ := bs_len (Sl.of_own o2)
    have gW2 := gW.trans g2
    have y3 := (below_ext g2) _ _ x3
    have hbl := own_lt HB.out
    have O2 := Lib.hid o2
    clear o2
    go_wp2_with fail
    refine (K5.out _ _ (by omega)).mono ?_
    rintro x w3 ⟨rfl, rfl⟩
    go_wp2_with fail
    refine (sinsert_any W0.heap.size L O _ _ T w2 htl O2.out (by rw [HO.out]; exact ((pay_own HB.out hc1 hc _ (by first | exact .inl ⟨rfl, rfl⟩ | exact .inr rfl)).grew gW2).mono (by omega)) ?_ (by omega) g2.size).mono ?_
    · intro g hg he
      have h1 := (own_lt O2.out g he).1
      have h2 := ((pay_own HB.out hc1 hc _ (by first | exact .inl ⟨rfl, rfl⟩ | exact .inr rfl)).2 g hg).2
      obtain ⟨cs, h2⟩ := h2
      have := h2.lt
      have := gW.size
      omega
    rintro x w3 ⟨v3, rfl, o3, g3⟩
    go_wp2
    go_ret
    exact ⟨_, rfl, own_mono o3 (by have := gW.size; omega), Below.trans (gW.trans g2) (Below.mono g3 gW.size)⟩
theorem sone_any (base : Nat) (b : List UInt8) (e : Ed) (vb ve : Value) (w : World) (hb : OwnB w base vb b) (he : Bs w ve e.bytes) (hok : e.ok) (hlen : b.length ≤ 1048576) (hbase : base ≤ w.heap.size) :
    Calls Try.prog 18 #[vb, .agg (edA e ve)] w fun x w' => ∃ v', x = .returned v' ∧ OwnB w' base v' (oneM b e) ∧ Grew w w' := by
  by_cases h1 : e.kind = 1
  · exact sone_1 base b e vb ve w hb he hok hlen hbase h1
  by_cases h2 : e.kind = 2
  · exact sone_2 base b e vb ve w hb he hok hlen hbase h2
  by_cases h3 : e.kind = 3
  · exact sone_3 base b e vb ve w hb he hok hlen hbase h3
  by_cases h4 : e.kind = 4
  · exact sone_4 base b e vb ve w hb he hok hlen hbase h4
  by_cases h5 : e.kind = 5
  · exact sone_5 base b e vb ve w hb he hok hlen hbase h5
  exact sone_0 base b e vb ve w hb he hok hlen hbase h1 h2 h3 h4 h5
end Go.Proofs.Ytgdkgmpgkocnlaa
