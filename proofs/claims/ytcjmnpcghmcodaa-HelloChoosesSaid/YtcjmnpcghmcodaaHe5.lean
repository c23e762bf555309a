/- rescriptlaw35.live: it holds. -/
import Derived.Test.YtcjmnpcghmcodaaHe4
namespace Go.Proofs.Ytcjmnpcghmcodaa
open Go Go.RowKit Go.Shelf

def hq : Msg := askM 1 2 ⟨#[120]⟩
def hz : Msg := askM 3 2 ⟨#[]⟩
def ha : Msg := ⟨2, fun i => if i = 0 then 2 else if i = 1 then 7 else 0, fun i => if i = 0 then ⟨#[109, 101]⟩ else ⟨#[]⟩, []⟩
def hb : Msg := ⟨2, fun i => if i = 0 then 3 else 0, fun _ => ⟨#[]⟩, []⟩
def hqA : Array Value := #[.int .u8 1, .int .u64 1, .int .u64 2, .int .u64 0, .int .u64 0, .int .u64 0, .int .u64 0, .string ⟨#[120]⟩, .string ⟨#[]⟩, .slice none 0 0]
def hzA : Array Value := #[.int .u8 1, .int .u64 3, .int .u64 2, .int .u64 0, .int .u64 0, .int .u64 0, .int .u64 0, .string ⟨#[]⟩, .string ⟨#[]⟩, .slice none 0 0]
def haA : Array Value := #[.int .u8 2, .int .u64 2, .int .u64 7, .int .u64 0, .int .u64 0, .int .u64 0, .int .u64 0, .string ⟨#[109, 101]⟩, .string ⟨#[]⟩, .slice none 0 0]
def hbA : Array Value := #[.int .u8 2, .int .u64 3, .int .u64 0, .int .u64 0, .int .u64 0, .int .u64 0, .int .u64 0, .string ⟨#[]⟩, .string ⟨#[]⟩, .slice none 0 0]
theorem askM_ok (lo hi : Nat) (nm : ByteArray) (h : nm.size ≤ 9223372036854775807) : okM (askM lo hi nm) := by
  refine ⟨fun i _ => ?_, fun _ h => by cases h⟩
  unfold askM; simp only; split
  · exact h
  · exact Nat.zero_le _
theorem hk1 (W : World) : Calls Try.prog 23 #[.int .u64 2, .int .u64 9] W fun e w' => e = .returned (.tuple #[.int .i64 3, .bool true]) ∧ W = w' := choose_any 2 9 W
theorem hk2 (W : World) : Calls Try.prog 23 #[.int .u64 4, .int .u64 9] W fun e w' => e = .returned (.tuple #[.int .i64 0, .bool false]) ∧ W = w' := choose_any 4 9 W
theorem hk3 (W : World) : Calls Try.prog 27 #[.int .u32 1, .int .u32 2, .string ⟨#[120]⟩] W fun e w' => e = .returned (.agg hqA) ∧ Grew W w' := ask_any 1 2 ⟨#[120]⟩ (by omega) (by omega) W
theorem hk4 (W : World) : Calls Try.prog 27 #[.int .u32 3, .int .u32 2, .string ⟨#[]⟩] W fun e w' => e = .returned (.agg hzA) ∧ Grew W w' := ask_any 3 2 ⟨#[]⟩ (by omega) (by omega) W
theorem hd1 : ansF hq = 0 := by decide +kernel
theorem hd2 : ansF hz = 1 := by decide +kernel
theorem hd3 : firstV (ownN ⟨#[109, 101]⟩) < 0 := by decide +kernel
theorem hk5 (W : World) : Calls Try.prog 25 #[.agg hqA, .int .u64 7, .string ⟨#[109, 101]⟩] W fun e w' => e = .returned (.tuple #[.agg haA, .int .i64 2, .int .i64 0]) ∧ Grew W w' := by
  have := answer_any hq none 0 7 ⟨#[109, 101]⟩ W (askM_ok _ _ _ (by decide)) (Sl.nil W 1) (by simp [hq, askM])
  have e := ans_own (ss := 7) (nm := ⟨#[109, 101]⟩) hd1 (by decide) hd3
  rw [e.1, e.2, hd1] at this
  exact this
theorem hk6 (W : World) : Calls Try.prog 25 #[.agg hzA, .int .u64 1, .string ⟨#[]⟩] W fun e w' => e = .returned (.tuple #[.agg zMsg, .int .i64 0, .int .i64 1]) ∧ Grew W w' := by
  have := answer_any hz none 0 1 ⟨#[]⟩ W (askM_ok _ _ _ (by decide)) (Sl.nil W 1) (by simp [hz, askM])
  have e := ans_err (m := hz) (ss := 1) (nm := ⟨#[]⟩) (by rw [hd2]; omega)
  rw [e.1, e.2, hd2] at this
  exact this
theorem hk7 (W : World) : Calls Try.prog 28 #[.agg hqA, .agg haA] W fun e w' => e = .returned (.tuple #[.int .i64 2, .int .i64 0]) ∧ Grew W w' := accept_any hq ha none none 0 0 W
theorem hk8 (W : World) : Calls Try.prog 28 #[.agg hqA, .agg hbA] W fun e w' => e = .returned (.tuple #[.int .i64 0, .int .i64 15]) ∧ Grew W w' := accept_any hq hb none none 0 0 W
set_option maxRecDepth 100000 in
set_option maxHeartbeats 4000000 in
theorem live35_any (w : World) : Calls Try.prog 22 #[] w fun e w' => e = .returned (.bool true) ∧ Grew w w' := by
  have L3 := Lib.hid hk3
  have L4 := Lib.hid hk4
  have L5 := Lib.hid hk5
  have L6 := Lib.hid hk6
  have L7 := Lib.hid hk7
  have L8 := Lib.hid hk8
  simp only [hqA, hzA, haA, hbA, zMsg] at L3 L4 L5 L6 L7 L8
  go_enter Try.func22, Try.ntmps22
  go_wp2_with fail
  refine (hk1 _).mono ?_
  rintro e w1 ⟨rfl, rfl⟩
  go_wp2_with fail
  refine (hk2 _).mono ?_
  rintro e w1 ⟨rfl, rfl⟩
  go_wp2_with fail
  refine (L3.out _).mono ?_
  rintro e w1 ⟨rfl, g1⟩
  go_upto_region 4 with (fail)
  obtain ⟨W2, hW2⟩ : ∃ W2, W2 = w1.alloc (.cells hqA 27) := ⟨_, rfl⟩
  have k2 : Blk W2 w1.heap.size 27 hqA := by rw [hW2]; exact Blk.new _ _ _
  have g2 : Grew w W2 := by rw [hW2]; exact g1.trans (grew_alloc _ _)
  have K2 := Lib.hid k2
  have G2 := Lib.hid g2
  simp only [hqA] at hW2 K2
  rw [← hW2]
  clear hW2 k2 g2 g1
  refine wp_region_lit ?_
  refine wpList_load_row rfl 27 _ rfl w1.heap.size rfl 27 _ (0, 0) _ K2.out Try.underlying27 rfl (by kernel_rfl) ?_
  go_wp2_with fail
  refine (L5.out _).mono ?_
  rintro e w3 ⟨rfl, g3⟩
  have K3 := Lib.hid (K2.out.grew g3)
  have G3 := Lib.hid (G2.out.trans g3)
  clear K2 G2 g3
  go_upto_region 5 with (fail)
  obtain ⟨W4, hW4⟩ : ∃ W4, W4 = w3.alloc (.cells haA 27) := ⟨_, rfl⟩
  have k4 : Blk W4 w3.heap.size 27 haA := by rw [hW4]; exact Blk.new _ _ _
  have g4 : Grew w W4 := by rw [hW4]; exact G3.out.trans (grew_alloc _ _)
  have K4 := Lib.hid k4
  have K5 : RowKit.Hid (Blk W4 w1.heap.size 27 _) := Lib.hid (by rw [hW4]; exact K3.out.alloc _)
  have G4 := Lib.hid g4
  simp only [haA] at hW4 K4
  rw [← hW4]
  clear hW4 k4 g4 K3 G3
  refine wp_region_lit ?_
  refine wpList_load_row rfl 27 _ rfl w1.heap.size rfl 27 _ (0, 0) _ K5.out Try.underlying27 rfl (by kernel_rfl) ?_
  refine wpList_load_row rfl 27 _ rfl w3.heap.size rfl 27 _ (0, 0) _ K4.out Try.underlying27 rfl (by kernel_rfl) ?_
  go_wp2_with fail
  refine (L7.out _).mono ?_
  rintro e w5 ⟨rfl, g5⟩
  go_wp2_with fail
  refine (L4.out _).mono ?_
  rintro e w6 ⟨rfl, g6⟩
  go_wp2_with fail
  refine (L6.out _).mono ?_
  rintro e w7 ⟨rfl, g7⟩
  have g57 := (g5.trans g6).trans g7
  have K6 := Lib.hid (K4.out.grew g57)
  have K7 := Lib.hid (K5.out.grew g57)
  have G7 := Lib.hid (G4.out.trans g57)
  clear K4 K5 G4 g5 g6 g7 g57
  go_upto_region 7 with (fail)
  obtain ⟨W8, hW8⟩ : ∃ W8, W8 = w7.alloc (.cells zMsg 27) := ⟨_, rfl⟩
  have k8 : RowKit.Hid (Blk W8 w3.heap.size 27 _) := Lib.hid (by rw [hW8]; exact K6.out.alloc _)
  have k9 : RowKit.Hid (Blk W8 w1.heap.size 27 _) := Lib.hid (by rw [hW8]; exact K7.out.alloc _)
  have G8 : RowKit.Hid (Grew w W8) := Lib.hid (by rw [hW8]; exact G7.out.trans (grew_alloc _ _))
  simp only [zMsg] at hW8
  rw [← hW8]
  clear hW8 K6 K7 G7
  refine wp_region_lit ?_
  refine wpList_load_row rfl 27 _ rfl w1.heap.size rfl 27 _ (0, 0) _ k9.out Try.underlying27 rfl (by kernel_rfl) ?_
  refine wpList_build_to rfl 23 _ rfl #[.int .u64 3, .int .u64 0, .int .u64 0, .int .u64 0, .int .u64 0, .int .u64 0] (by kernel_rfl) ?_
  refine wpList_build_to rfl 27 _ rfl hbA (by kernel_rfl) ?_
  simp only [hbA]
  go_wp2_with fail
  refine (L8.out _).mono ?_
  rintro e w9 ⟨rfl, g9⟩
  have K9 := k8.out.grew g9
  have K8 := k9.out.grew g9
  have x0 := K9.cell 0
  have x1 := K9.cell 1
  have x2 := K9.cell 2
  have x7 := K9.cell 7
  have y0 := K8.cell 0
  have y7 := K8.cell 7
  simp only [List.getElem?_toArray, List.getElem?_cons_zero, List.getElem?_cons_succ] at x0 x1 x2 x7 y0 y7
  have s1 : ((⟨#[120]⟩ : ByteArray).toList == (⟨#[120]⟩ : ByteArray).toList) = true := by simp
  have s2 : ((⟨#[109, 101]⟩ : ByteArray).toList == (⟨#[109, 101]⟩ : ByteArray).toList) = true := by simp
  have G9 := Lib.hid (G8.out.trans g9)
  clear g9 k8 k9 G8 K9 K8
  go_wp2
  go_ret
  exact ⟨rfl, G9.out⟩
end Go.Proofs.Ytcjmnpcghmcodaa
