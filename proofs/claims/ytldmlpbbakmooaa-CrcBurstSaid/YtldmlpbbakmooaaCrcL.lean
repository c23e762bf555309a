/- The laws of package crc, walked. -/
import Derived.Test.YtldmlpbbakmooaaCrcB
namespace Go.Proofs.Ytldmlpbbakmooaa
open Go Go.RowKit Go.Shelf

theorem live_of : csum [49, 50, 51, 52, 53, 54, 55, 56, 57] = 3421780262 := by decide +kernel
theorem live_seal : cseal [1, 2] = [1, 2, 146, 66, 204, 182] := by decide +kernel
theorem live_open1 : copen [1, 2, 146, 66, 204, 182] = ([1, 2], 0) := by decide +kernel
theorem live_open2 : copen [0, 0, 0] = ([], 4) := by decide +kernel
theorem live_open3 : copen [1, 0, 0, 0, 0] = ([], 12) := by decide +kernel
theorem live_step : cstep 1 false = 3988292384 := by decide +kernel

set_option maxRecDepth 100000 in
set_option maxHeartbeats 1000000 in
theorem live7_any (w : World) : Calls Try.prog 7 #[] w fun e w' => e = .returned (.bool true) ∧ Grew w w' := by
  have kc := fun (w : World) (C : Array Value) (n c : Nat) => Lib.run_convert_bytes_const (P := Try.prog) w 22 5 C n c Try.underlying22 Try.underlying5
  go_enter Try.func7, Try.ntmps7
  go_wp2_with fail
  refine (seal_any [1, 2] _ _ (bs_lit w _ _ 2 rfl rfl (by omega)) (by simp)).mono ?_
  rintro e w1 ⟨v1, rfl, ho1, hg1⟩
  rw [live_seal] at ho1
  have hb1 := Sl.of_own ho1
  obtain ⟨a1, c1, rfl⟩ := bs_len hb1
  have hG1 : Grew w w1 := ((Below.refl _ w).alloc (Nat.le_refl _) _).trans (hg1.mono (by simp))
  clear hg1 ho1
  go_wp2_with fail
  refine (open_any [1, 2, 146, 66, 204, 182] _ _ hb1 (by simp)).mono ?_
  rintro e w2 ⟨v2, rfl, ho2, hg2⟩
  rw [live_open1] at ho2 ⊢
  have hb2 := Sl.of_own ho2
  have hG2 : Grew w w2 := Grew.trans hG1 hg2
  clear ho2 hg2 hb1 hG1
  go_wp2_with fail
  refine (open_any [0, 0, 0] _ _ (bs_lit w2 _ _ 3 rfl rfl (by omega)) (by simp)).mono ?_
  rintro e w3 ⟨v3, rfl, ho3, hg3⟩
  rw [live_open2] at ho3 ⊢
  have hg3' : Grew w2 w3 := ((Below.refl _ w2).alloc (Nat.le_refl _) _).trans (hg3.mono (by simp))
  have hb3 := hb2.grew hg3'
  have hG3 : Grew w w3 := Grew.trans hG2 hg3'
  clear ho3 hg3 hg3' hb2 hG2
  go_wp2_with fail
  refine (open_any [1, 0, 0, 0, 0] _ _ (bs_lit w3 _ _ 5 rfl rfl (by omega)) (by simp)).mono ?_
  rintro e w4 ⟨v4, rfl, ho4, hg4⟩
  rw [live_open3] at ho4 ⊢
  have hg4' : Grew w3 w4 := ((Below.refl _ w3).alloc (Nat.le_refl _) _).trans (hg4.mono (by simp))
  have hb4 := hb3.grew hg4'
  have hG4 : Grew w w4 := Grew.trans hG3 hg4'
  clear ho4 hg4 hg4' hb3 hG3
  go_wp2_with fail
  refine (of_any [49, 50, 51, 52, 53, 54, 55, 56, 57] _ _ (bs_lit w4 _ _ 9 rfl rfl (by omega) _)).mono ?_
  rintro e w5 ⟨rfl, hg5⟩
  rw [live_of]
  have hg5' : Grew w4 w5 := ((Below.refl _ w4).alloc (Nat.le_refl _) _).trans (hg5.mono (by simp))
  have hb5 := hb4.grew hg5'
  have hG5 : Grew w w5 := Grew.trans hG4 hg5'
  clear hg5 hg5' hb4 hG4
  go_wp2_with fail
  refine (same_any [1, 2] [1, 2] _ _ _ (hb5.grew ((Below.refl _ _).alloc (Nat.le_refl _) _)) (bs_lit w5 _ _ 2 rfl rfl (by omega))).mono ?_
  rintro e w6 ⟨rfl, hd6⟩
  have hG6 : Grew w w6 := Grew.trans hG5 (Grew.trans ((Below.refl _ _).alloc (Nat.le_refl _) _) hd6.grew)
  clear hd6 hb5 hG5
  go_wp2_with fail
  refine (step_any 1 false _ (by decide)).mono ?_
  rintro e w7 ⟨rfl, rfl⟩
  rw [live_step]
  go_wp2
  go_ret
  exact ⟨rfl, hG6⟩

set_option maxHeartbeats 1000000 in
theorem crcIs_any (l : List UInt8) (v : Value) (s : Nat) (bit : Bool) (w : World) (hb : Bs w v l) (hs : s < 4294967296) :
    Calls Try.prog 3 #[v, .int .u32 s, .bool bit] w fun e w' => e = .returned (.bool true) ∧ Grew w w' := by
  obtain ⟨a, c, rfl⟩ := bs_len hb
  go_enter Try.func3, Try.ntmps3
  go_wp2_with fail
  refine (live7_any _).mono ?_
  rintro e w1 ⟨rfl, hg1⟩
  have hb1 := hb.grew hg1
  by_cases hlen : 2000 < l.length
  · go_wp2_with fail
    go_ret
    exact ⟨rfl, hg1⟩
  · go_wp2_with fail
    refine (of_any l _ _ hb1).mono ?_
    rintro e w2 ⟨rfl, hg2⟩
    have hb2 := hb1.grew hg2
    go_wp2_with fail
    refine (rof_any l _ _ hb2).mono ?_
    rintro e w3 ⟨rfl, rfl⟩
    go_wp2_with fail
    refine (step_any s bit _ hs).mono ?_
    rintro e w3 ⟨rfl, rfl⟩
    go_wp2_with fail
    refine (rstep_any s bit _ hs).mono ?_
    rintro e w3 ⟨rfl, rfl⟩
    go_wp2
    go_ret
    exact ⟨rfl, Grew.trans hg1 hg2⟩

end Go.Proofs.Ytldmlpbbakmooaa
