/- rescripttop.awakeFrames holds; the law WholeSplit returns true: its walk. -/
import Derived.Test.YthjfgefkahgenaaFrV
namespace Go.Proofs.Ythjfgefkahgenaa
open Go Go.RowKit Go.Shelf

theorem i64_eqN (a b : Nat) : ((a : Int) == (b : Int)) = (a == b) := by
  have := i64_ne a b
  have h1 : ((a : Int) == (b : Int)) = !((a : Int) != (b : Int)) := by simp [bne]
  rw [h1, this]; simp
theorem aw_walk : walkL false ([0] ++ fput (3, [1])) 0 = ([(1, (3, [1]))], 1, 11) := by decide +kernel
theorem aw_len : (fput (3, [1])).length = 10 := by decide +kernel

set_option maxRecDepth 100000 in
set_option maxHeartbeats 4000000 in
theorem awakeF_any (w : World) : Calls Try.prog 34 #[] w fun e w' => e = .returned (.bool true) ∧ Grew w w' := by
  go_enter Try.func34, Try.ntmps34
  go_wp2_with fail
  refine (fput_any (3, [1]) _ _ (bs_lit w [1] #[.int .u8 1] 1 rfl rfl (by omega)) (by decide)).mono ?_
  rintro e w1 ⟨v1, rfl, h1, g1⟩
  have q1 := Sl.of_own h1
  have G1 := (grew_alloc w (.cells #[.int .u8 1] 5)).trans g1
  obtain ⟨a1, n1, c1, rfl, hn1⟩ := bs_shape q1
  clear h1
  have gA := grew_alloc w1 (.cells #[.int .u8 0] 5)
  have q2 := q1.grew gA
  have ho : OwnB (w1.alloc (.cells #[.int .u8 0] 5)) w.heap.size (.slice (some ⟨w1.heap.size, 0, none⟩) 1 1) [0] := World.ownsRow_lit w1 #[.int .u8 0] 1 G1.size (by unfold maxLen; omega) rfl
  have HO := Lib.hid ho
  have HQ := Lib.hid q2
  clear q1 ho q2
  go_wp2_with (at_builtin; refine wpList_push rfl _ _ rfl w.heap.size _ [0] rfl HO.out _ rfl (fput (3, [1])) HQ.out (by rw [aw_len]; decide) (by have := (G1.trans gA).size; exact this) ?_; intro v2 w2 hown2 hB2 _; obtain ⟨a2, n2, c2, rfl, hn2⟩ := bs_shape (Sl.of_own hown2))
  have G2 := Below.trans (G1.trans gA) hB2
  have k3 := all_any _ _ _ (Sl.of_own hown2) (by rw [List.length_append, aw_len]; decide)
  rw [aw_walk] at k3
  refine k3.mono ?_
  clear k3 hown2
  rintro e w3 ⟨v3, rfl, h3, g3⟩
  obtain ⟨a3, n3, c3, rfl, rfl, -, -⟩ := h3.shape
  obtain ⟨b, o, rfl, hcl⟩ := h3.frs.cells (by decide)
  obtain ⟨x0, -, -⟩ := hcl 0 (by decide)
  simp only [Nat.zero_mul, Nat.add_zero, List.getElem_cons_zero] at x0
  replace x0 : w3.cell? ⟨b, o, none⟩ = some (.int .i64 1) := x0
  have G3 : Grew w w3 := Grew.trans G2 g3
  clear hcl h3
  go_wp2
  go_ret
  exact ⟨rfl, G3⟩
end Go.Proofs.Ythjfgefkahgenaa
