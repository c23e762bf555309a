/- The law StreamTwice returns true: its walk. -/
import Derived.Test.YtoinndlialimcaaSt1
namespace Go.Proofs.Ytoinndlialimcaa
open Go Go.RowKit Go.Shelf

set_option maxRecDepth 100000 in
set_option maxHeartbeats 4000000 in
theorem stwice_walk (l : List UInt8) (v : Value) (at' n bit : Int) (w : World) (hb : Bs w v l) (h1 : -9223372036854775808 ≤ at' ∧ at' ≤ 9223372036854775807) (h2 : -9223372036854775808 ≤ n ∧ n ≤ 9223372036854775807) (h3 : -9223372036854775808 ≤ bit ∧ bit ≤ 9223372036854775807) :
    Calls Try.prog 6 #[v, .int .i64 at', .int .i64 n, .int .i64 bit] w fun e w' => e = .returned (.bool true) ∧ Grew w w' := by
  obtain ⟨a, c, rfl, q1, q2, -, -⟩ := hb.open
  unfold maxLen at q2
  by_cases hl : 1000 < l.length
  · clear hb
    go_enter Try.func6, Try.ntmps6
    go_wp2_with fail
    refine (live16_any _).mono ?_
    rintro e w1 ⟨rfl, g1⟩
    go_wp2
    go_ret
    exact ⟨rfl, g1⟩
  have hl' : l.length ≤ 1000 := by omega
  have HB := Lib.hid hb
  clear hl hb
  go_enter Try.func6, Try.ntmps6
  go_wp2_with fail
  refine (live16_any _).mono ?_
  rintro e w1 ⟨rfl, g1⟩
  obtain ⟨w2, hw2⟩ : ∃ w2, w2 = w1.alloc (.cells #[.int .i64 1, .int .i64 at', .int .i64 0, .int .i64 bit, .slice none 0 0] 26) := ⟨_, rfl⟩
  have gA : Grew w1 w2 := by rw [hw2]; exact grew_alloc _ _
  have kE : Blk w2 w1.heap.size 26 #[.int .i64 1, .int .i64 at', .int .i64 0, .int .i64 bit, .slice none 0 0] := by rw [hw2]; exact Blk.new _ _ _
  go_upto_region 6 with (fail)
  rw [← hw2]
  clear hw2
  have x0 : w2.cell? ⟨w1.heap.size, 0, none⟩ = some (.int .i64 1) := kE.cell 0
  have x1 : w2.cell? ⟨w1.heap.size, 1, none⟩ = some (.int .i64 at') := kE.cell 1
  have x2 : w2.cell? ⟨w1.heap.size, 2, none⟩ = some (.int .i64 0) := kE.cell 2
  have x3 : w2.cell? ⟨w1.heap.size, 3, none⟩ = some (.int .i64 bit) := kE.cell 3
  have x4 : w2.cell? ⟨w1.heap.size, 4, none⟩ = some (.slice none 0 0) := kE.cell 4
  have G2 := g1.trans gA
  clear kE
  go_wp2_with fail
  refine (sdo_any [(⟨1, at', 0, bit, []⟩, .slice none 0 0), (⟨1, at', 0, bit, []⟩, .slice none 0 0)] l _ _ _ ((HB.out.grew G2).grew (grew_alloc _ _)) ⟨Sl.lit w2 26 (0, 0) #[.int .i64 1, .int .i64 at', .int .i64 0, .int .i64 bit, .slice none 0 0, .int .i64 1, .int .i64 at', .int .i64 0, .int .i64 bit, .slice none 0 0] 2 5 rfl (by unfold maxLen; omega), fun x hx => by
      simp only [List.mem_cons, List.not_mem_nil, or_false, or_self] at hx
      subst hx
      exact ⟨Sl.nil _ 1, by unfold Ed.ok; simp; omega⟩⟩ (by omega)).mono ?_
  simp only [List.map_cons, List.map_nil, twice_flip l at' 0 bit (by omega)]
  rintro e w3 ⟨v3, rfl, o3, g3⟩
  obtain ⟨a3, c3, rfl⟩ := bs_len (Sl.of_own o3)
  have G3 := (G2.trans (grew_alloc _ _)).trans g3
  have O3 := Lib.hid (Sl.of_own o3)
  clear o3 x0 x1 x2 x3 x4
  go_wp2_with fail
  refine (same_any l l _ _ _ O3.out (HB.out.grew G3)).mono ?_
  rintro e w4 ⟨rfl, d4⟩
  rw [show (l == l) = true by simp]
  have G4 := G3.trans d4.grew
  by_cases c1 : at' < 0
  · go_wp2
    go_ret
    exact ⟨rfl, G4⟩
  by_cases c2 : n < 0
  · have c1' : 0 ≤ at' := by omega
    go_wp2
    go_ret
    exact ⟨rfl, G4⟩
  by_cases c3 : (l.length : Int) < at'
  · have c1' : 0 ≤ at' := by omega
    have c2' : 0 ≤ n := by omega
    go_wp2
    go_ret
    exact ⟨rfl, G4⟩
  have c1' : 0 ≤ at' := by omega
  have c2' : 0 ≤ n := by omega
  have c3' : at' ≤ (l.length : Int) := by omega
  by_cases c4 : (l.length : Int) - at' < n
  · go_wp2
    go_ret
    exact ⟨rfl, G4⟩
  have c4' : n ≤ (l.length : Int) - at' := by omega
  obtain ⟨p, rfl⟩ : ∃ p : Nat, at' = (p : Int) := ⟨at'.toNat, by omega⟩
  obtain ⟨m, rfl⟩ : ∃ m : Nat, n = (m : Int) := ⟨n.toNat, by omega⟩
  have hpm : p + m ≤ l.length := by omega
  clear c1 c2 c3 c4
  go_wp2_with fail
  refine (sdo_any [(⟨3, p, m, 0, []⟩, .slice none 0 0), (⟨2, p, m, 0, []⟩, .slice none 0 0)] l _ _ _ ((HB.out.grew G4).grew (grew_alloc _ _)) ⟨Sl.lit w4 26 (0, 0) #[.int .i64 3, .int .i64 p, .int .i64 m, .int .i64 0, .slice none 0 0, .int .i64 2, .int .i64 p, .int .i64 m, .int .i64 0, .slice none 0 0] 2 5 rfl (by unfold maxLen; omega), fun x hx => by
      simp only [List.mem_cons, List.not_mem_nil, or_false] at hx
      rcases hx with rfl | rfl
      · exact ⟨Sl.nil _ 1, by unfold Ed.ok; simp; omega⟩
      · exact ⟨Sl.nil _ 1, by unfold Ed.ok; simp; omega⟩⟩ (by omega)).mono ?_
  simp only [List.map_cons, List.map_nil, twice_copy l p m 0 0 [] [] hl' hpm]
  rintro e w5 ⟨v5, rfl, o5, g5⟩
  obtain ⟨a5, c5, rfl⟩ := bs_len (Sl.of_own o5)
  have G5 := (G4.trans (grew_alloc _ _)).trans g5
  have O5 := Lib.hid (Sl.of_own o5)
  clear o5
  go_wp2_with fail
  refine (same_any l l _ _ _ O5.out (HB.out.grew G5)).mono ?_
  rintro e w6 ⟨rfl, d6⟩
  rw [show (l == l) = true by simp]
  go_wp2
  go_ret
  exact ⟨rfl, G5.trans d6.grew⟩
end Go.Proofs.Ytoinndlialimcaa
