/- The laws HelloChooses, HelloAnswers return true: their walks. -/
import Derived.Test.YtcjmnpcghmcodaaHe5
import Derived.Test.YtcjmnpcghmcodaaVaa
namespace Go.Proofs.Ytcjmnpcghmcodaa
open Go Go.RowKit Go.Shelf

theorem chV_most {lo hi n : Nat} (h1 : 1 ≤ n) (h3 : n ≤ 3) (hl : lo ≤ n) (hh : n ≤ hi) : (chV lo hi).2 = true ∧ n ≤ (chV lo hi).1 := by
  rw [chV_yes (by omega)]; exact ⟨rfl, by simp; omega⟩
set_option maxRecDepth 100000 in
set_option maxHeartbeats 4000000 in
theorem chooses_walk (lo hi : Nat) (w : World) :
    Calls Try.prog 7 #[.int .u64 lo, .int .u64 hi] w fun e w' => e = .returned (.bool true) ∧ Grew w w' := by
  have HM := Lib.hid (fun n => chV_most (lo := lo) (hi := hi) (n := n))
  have KH := Lib.hid (fun W => choose_any lo hi W)
  have KR := Lib.hid (fun W => rchoose_any lo hi W)
  have hy3 := chV_le lo hi
  obtain ⟨⟨yv, yb⟩, hY⟩ : ∃ Y, Y = chV lo hi := ⟨_, rfl⟩
  rw [← hY] at hy3 KH KR HM
  simp only at hy3 KH KR HM
  clear hY
  have hz : (yv : Int) ≤ 3 := by omega
  have ht : ((yv : Int) != (yv : Int)) = false := by simp
  have hb : (yb != yb) = false := by cases yb <;> rfl
  clear hy3
  go_enter Try.func7, Try.ntmps7
  go_wp2_with fail
  refine (live35_any _).mono ?_
  rintro e w1 ⟨rfl, g1⟩
  go_wp2_with fail
  refine (KH.out _).mono ?_
  rintro e w2 ⟨rfl, rfl⟩
  go_wp2_with fail
  refine (KR.out _).mono ?_
  rintro e w2 ⟨rfl, rfl⟩
  cases yb with
  | true =>
    go_wp2
    go_loop [9] (fun n => ∃ k : Nat, 1 ≤ k ∧ k ≤ 4 ∧ n = .int .u64 k) (fun n => 4 - (intOf n).toNat)
    case atStart => exact ⟨1, by omega, by omega, rfl⟩
    case round =>
      obtain ⟨k, h1, h4, rfl⟩ := hrel
      by_cases hk : k ≤ 3
      · have z1 : (k : Int) ≤ 3 := by omega
        by_cases hl : lo ≤ k
        · have d1 : decide (lo ≤ k) = true := by simpa using hl
          by_cases hh : k ≤ hi
          · have d2 : decide (k ≤ hi) = true := by simpa using hh
            have d3 : decide (yv < k) = false := by have := (HM.out k h1 hk hl hh).2; simp; omega
            clear hl hh
            go_wp2
            go_round
            case rel => exact ⟨k + 1, by omega, by omega, by go_num⟩
            case measure => simp [intOf]; omega
          · have d2 : decide (k ≤ hi) = false := by simpa using hh
            clear hl hh
            go_wp2
            go_round
            case rel => exact ⟨k + 1, by omega, by omega, by go_num⟩
            case measure => simp [intOf]; omega
        · have d1 : decide (lo ≤ k) = false := by simpa using hl
          clear hl
          go_wp2
          go_round
          case rel => exact ⟨k + 1, by omega, by omega, by go_num⟩
          case measure => simp [intOf]; omega
      · obtain rfl : k = 4 := by omega
        go_wp2
        go_ret
        exact ⟨rfl, g1⟩
  | false =>
    go_wp2
    go_loop [9] (fun n => ∃ k : Nat, 1 ≤ k ∧ k ≤ 4 ∧ n = .int .u64 k) (fun n => 4 - (intOf n).toNat)
    case atStart => exact ⟨1, by omega, by omega, rfl⟩
    case round =>
      obtain ⟨k, h1, h4, rfl⟩ := hrel
      by_cases hk : k ≤ 3
      · have z1 : (k : Int) ≤ 3 := by omega
        by_cases hl : lo ≤ k
        · have d1 : decide (lo ≤ k) = true := by simpa using hl
          have d2 : decide (k ≤ hi) = false := by
            simp
            by_cases hh : k ≤ hi
            · have := (HM.out k h1 hk hl hh).1; cases this
            · omega
          clear hl
          go_wp2
          go_round
          case rel => exact ⟨k + 1, by omega, by omega, by go_num⟩
          case measure => simp [intOf]; omega
        · have d1 : decide (lo ≤ k) = false := by simpa using hl
          clear hl
          go_wp2
          go_round
          case rel => exact ⟨k + 1, by omega, by omega, by go_num⟩
          case measure => simp [intOf]; omega
      · obtain rfl : k = 4 := by omega
        go_wp2
        go_ret
        exact ⟨rfl, g1⟩
theorem sameB_refl (m : Msg) : sameB m m = true := by unfold sameB; simp
set_option maxRecDepth 100000 in
set_option maxHeartbeats 4000000 in
theorem answers_walk (m : Msg) (v : Value) (ss : Nat) (nm : ByteArray) (w : World) (hm : MsgR w v m) :
    Calls Try.prog 8 #[v, .int .u64 ss, .string nm] w fun e w' => e = .returned (.bool true) ∧ Grew w w' := by
  obtain ⟨lv, rfl, hl, ho⟩ := hm
  obtain ⟨a, c, rfl⟩ := tx_len hl
  obtain ⟨W0, hW0⟩ : ∃ W0, W0 = w.alloc (.cells (msgA m (.slice a m.l.length c)) 27) := ⟨_, rfl⟩
  have g0 : Grew w W0 := by rw [hW0]; exact grew_alloc _ _
  have k1 : Blk W0 w.heap.size 27 (msgA m (.slice a m.l.length c)) := by rw [hW0]; exact Blk.new _ _ _
  have K1 := Lib.hid k1
  have G0 := Lib.hid g0
  have KS := Lib.hid (fun W g => small9_any m (.slice a m.l.length c) W (hl.grew (g : Grew w W)))
  have KC := Lib.hid (fun W g h => answer_any m a c ss nm W ho (hl.grew (g : Grew w W)) h)
  have KR := Lib.hid (fun W g => ranswer_any m a c ss nm W ho (hl.grew (g : Grew w W)))
  have KE := Lib.hid (fun W => rsame9_any (ansM m ss nm) (ansM m ss nm) (.slice none 0 0) (.slice none 0 0) W (by rw [show (ansM m ss nm).l = [] by unfold ansM; split <;> rfl]; exact Sl.nil W 1) (by rw [show (ansM m ss nm).l = [] by unfold ansM; split <;> rfl]; exact Sl.nil W 1))
  rw [sameB_refl] at KE
  have hal : ∃ q : Array Value, q = msgA (ansM m ss nm) (.slice none 0 0) := ⟨_, rfl⟩
  generalize ansM m ss nm = M at KC KR KE
  generalize ansV m = V at KC KR
  generalize ansF m = F at KC KR
  simp only [msgA] at hW0 KS KC KR K1 KE ⊢
  have ht : ((V : Int) == (V : Int)) = true := by simp
  have hb : ((F : Int) == (F : Int)) = true := by simp
  clear k1 g0 hl ho hal
  go_enter Try.func8, Try.ntmps8
  go_wp2_with fail
  rw [← hW0]
  refine (live35_any _).mono ?_
  rintro e w1 ⟨rfl, g1⟩
  have K2 := Lib.hid (K1.out.grew g1)
  have G1 := Lib.hid (G0.out.trans g1)
  clear hW0 K1 G0 g1
  go_upto_region 3 with (fail)
  refine wp_region_lit ?_
  refine wpList_load_row rfl 27 _ rfl w.heap.size rfl 27 _ (0, 0) _ K2.out Try.underlying27 rfl (by kernel_rfl) ?_
  go_wp2_with fail
  refine (KS.out _ G1.out).mono ?_
  rintro e w2 ⟨rfl, g2⟩
  have K3 := Lib.hid (K2.out.grew g2)
  have G2 := Lib.hid (G1.out.trans g2)
  clear K2 G1 g2
  cases hs : smallB m with
  | false =>
    go_wp2
    go_ret
    exact ⟨rfl, G2.out⟩
  | true =>
    have HLN := Lib.hid (show m.l.length ≤ 1000000000 from by have := small_len hs; omega)
    clear hs
    by_cases h5 : 500 < nm.size
    · have z5 : (500 : Int) < (nm.size : Int) := by omega
      go_wp2
      go_ret
      exact ⟨rfl, G2.out⟩
    have z5 : (nm.size : Int) ≤ 500 := by omega
    clear h5
    go_upto_region 5 with (fail)
    refine wp_region_lit ?_
    refine wpList_load_row rfl 27 _ rfl w.heap.size rfl 27 _ (0, 0) _ K3.out Try.underlying27 rfl (by kernel_rfl) ?_
    go_wp2_with fail
    refine (KC.out _ G2.out HLN.out).mono ?_
    rintro e w3 ⟨rfl, g3⟩
    have K4 := Lib.hid (K3.out.grew g3)
    have G3 := Lib.hid (G2.out.trans g3)
    clear K3 G2 g3
    go_upto_region 6 with (fail)
    obtain ⟨W4, hW4⟩ : ∃ W4, W4 = w3.alloc (.cells (msgA M (.slice none 0 0)) 27) := ⟨_, rfl⟩
    have KA : RowKit.Hid (Blk W4 w3.heap.size 27 (msgA M (.slice none 0 0))) := Lib.hid (by rw [hW4]; exact Blk.new _ _ _)
    have K5 : RowKit.Hid (Blk W4 w.heap.size 27 _) := Lib.hid (by rw [hW4]; exact K4.out.alloc _)
    have G4 : RowKit.Hid (Grew w W4) := Lib.hid (by rw [hW4]; exact G3.out.trans (grew_alloc _ _))
    simp only [msgA] at hW4 KA
    rw [← hW4]
    clear hW4 K4 G3
    refine wp_region_lit ?_
    refine wpList_load_row rfl 27 _ rfl w.heap.size rfl 27 _ (0, 0) _ K5.out Try.underlying27 rfl (by kernel_rfl) ?_
    go_wp2_with fail
    refine (KR.out _ G4.out).mono ?_
    rintro e w5 ⟨rfl, g5⟩
    have KA5 := Lib.hid (KA.out.grew g5)
    have G5 := Lib.hid (G4.out.trans g5)
    clear K5 G4 g5 KA
    go_upto_region 7 with (fail)
    obtain ⟨W6, hW6⟩ : ∃ W6, W6 = w5.alloc (.cells (msgA M (.slice none 0 0)) 27) := ⟨_, rfl⟩
    have KB : RowKit.Hid (Blk W6 w5.heap.size 27 (msgA M (.slice none 0 0))) := Lib.hid (by rw [hW6]; exact Blk.new _ _ _)
    have KA6 : RowKit.Hid (Blk W6 w3.heap.size 27 _) := Lib.hid (by rw [hW6]; exact KA5.out.alloc _)
    have G6 : RowKit.Hid (Grew w W6) := Lib.hid (by rw [hW6]; exact G5.out.trans (grew_alloc _ _))
    simp only [msgA] at hW6 KB
    rw [← hW6]
    clear hW6 G5 KA5
    refine wp_region_lit ?_
    refine wpList_load_row rfl 27 _ rfl w3.heap.size rfl 27 _ (0, 0) _ KA6.out Try.underlying27 rfl (by kernel_rfl) ?_
    refine wpList_load_row rfl 27 _ rfl w5.heap.size rfl 27 _ (0, 0) _ KB.out Try.underlying27 rfl (by kernel_rfl) ?_
    go_wp2_with fail
    refine (KE.out _).mono ?_
    rintro e w7 ⟨rfl, g7⟩
    have G7 := Lib.hid (G6.out.trans g7)
    clear g7
    go_wp2
    go_ret
    exact ⟨rfl, G7.out⟩
end Go.Proofs.Ytcjmnpcghmcodaa
