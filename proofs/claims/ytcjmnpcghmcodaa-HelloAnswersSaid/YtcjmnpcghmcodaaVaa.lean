/- The laws ValueChecks, ValuePlaces return true: their walks. -/
import Derived.Test.YtcjmnpcghmcodaaVal
import Derived.Test.YtcjmnpcghmcodaaOpm
namespace Go.Proofs.Ytcjmnpcghmcodaa
open Go Go.RowKit Go.Shelf

theorem small_len {m : Msg} (h : smallB m = true) : m.l.length ≤ 70 := by
  unfold smallB at h
  simp only [Bool.and_eq_true, Bool.not_eq_true', Bool.or_eq_false_iff, decide_eq_false_iff_not] at h
  omega
theorem flt_eq (x : Nat × Nat) (W : World) : (binOp .eql 32 (fltV x) (fltV x)).run Try.prog W = .ok (.bool true) W := by
  unfold fltV
  go_simp
set_option maxRecDepth 100000 in
set_option maxHeartbeats 4000000 in
theorem checks_walk (m : Msg) (v : Value) (ver : Int) (w : World) (hm : MsgR w v m) :
    Calls Try.prog 3 #[v, .int .i64 ver] w fun e w' => e = .returned (.bool true) ∧ Grew w w' := by
  obtain ⟨lv, rfl, hl, ho⟩ := hm
  obtain ⟨a, c, rfl⟩ := tx_len hl
  obtain ⟨W0, hW0⟩ : ∃ W0, W0 = w.alloc (.cells (msgA m (.slice a m.l.length c)) 27) := ⟨_, rfl⟩
  have g0 : Grew w W0 := by rw [hW0]; exact grew_alloc _ _
  have k1 : Blk W0 w.heap.size 27 (msgA m (.slice a m.l.length c)) := by rw [hW0]; exact Blk.new _ _ _
  have K1 := Lib.hid k1
  have G0 := Lib.hid g0
  have KS := Lib.hid (fun W g => small9_any m (.slice a m.l.length c) W (hl.grew (g : Grew w W)))
  have KC := Lib.hid (fun W g h => vcheck_any m (.slice a m.l.length c) ver W ho (hl.grew (g : Grew w W)) h)
  have KR := Lib.hid (fun W g => rcheck9_any m (.slice a m.l.length c) ver W ho (hl.grew (g : Grew w W)))
  generalize chkM m (ofKind m.k (rowsIn ver)) = X at KC KR
  have hfe := flt_eq X
  simp only [msgA, fltV] at hW0 KS KC KR hfe ⊢
  clear k1 g0 hl ho
  go_enter Try.func3, Try.ntmps3
  go_wp2_with fail
  rw [← hW0]
  refine (live09_any _).mono ?_
  rintro e w1 ⟨rfl, g1⟩
  have K2 := Lib.hid (K1.out.grew g1)
  have G1 := Lib.hid (G0.out.trans g1)
  obtain ⟨c0, c1, c2, c3, c4, c5, c6, c7, c8, c9⟩ := msg_cells K2.out
  clear hW0 K1 G0 g1
  go_wp2_with fail
  refine (KS.out _ G1.out).mono ?_
  rintro e w2 ⟨rfl, g2⟩
  have K3 := Lib.hid (K2.out.grew g2)
  have G2 := Lib.hid (G1.out.trans g2)
  cases hs : smallB m with
  | false =>
    go_wp2
    go_ret
    exact ⟨rfl, G2.out⟩
  | true =>
    have hlen := small_len hs
    simp only [msgA] at K3
    have hl9 : m.l.length ≤ 1000000000 := by omega
    have HL9 := Lib.hid hl9
    clear hs hlen hl9 c0 c1 c2 c3 c4 c5 c6 c7 c8 c9
    go_wp2
    refine wp_region_grew w2 (Below.refl _ _) (by kernel_rfl) (by kernel_rfl) ?_
    repeat (
      refine BigFrame.wpQuiet_want (by kernel_rfl) (fun K hK => ?_)
      first
        | (refine q_row 27 _ rfl w.heap.size rfl 27 _ _ K3.out Try.underlying27 rfl (by kernel_rfl) (hK _ ?_))
        | (apply Exists.intro
           apply And.intro
           · intro W hW
             go_simp
             first
               | done
               | rfl
               | with_reducible exact q_calls hW (KC.out W (G2.out.trans hW.out) HL9.out) (fun _ _ h => h)
               | with_reducible exact q_calls hW (KR.out W (G2.out.trans hW.out)) (fun _ _ h => h)
           refine hK _ ?_)
      clear hK K
      simp only [Act.put, List.setIfInBounds_toArray, List.set_cons_zero, List.set_cons_succ])
    refine wpQuiet_nil ?_
    intro w3 g3
    have G3 := Lib.hid (G2.out.trans g3.out)
    clear g3
    go_wp2
    go_ret
    exact ⟨rfl, G3.out⟩
end Go.Proofs.Ytcjmnpcghmcodaa
