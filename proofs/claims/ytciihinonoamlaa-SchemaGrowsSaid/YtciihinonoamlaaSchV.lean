/- The law's live(): true. -/
import Derived.Test.YtciihinonoamlaaSchF
import Derived.Test.YtciihinonoamlaaSchK
import Derived.Test.YtciihinonoamlaaSchP
import Derived.Test.YtciihinonoamlaaSchW
namespace Go.Proofs.Ytciihinonoamlaa
open Go Go.RowKit Go.Shelf

set_option maxRecDepth 10000 in
set_option maxHeartbeats 4000000 in
theorem live_any (w : World) : Calls Try.prog 7 #[] w fun e w' => e = .returned (.bool true) ∧ Grew w w' := by
  have o1 : (ofKind 6 (rowsIn 3)).length = 7 := by decide
  have o2 : ofKind 8 (rowsIn 1) = [] := by decide
  have o3 : (rowsIn 3).find? (isField 6 7) = some (6, 7, 3, 5, 3) := by decide
  have o4 : kindV ⟨#[115, 117, 98, 109, 105, 116]⟩ = (3, true) := by unfold kindV kindAt; simp only [ByteArray.toList_eq]; decide
  have o5 : wordV 1 = ⟨#[104, 101, 108, 108, 111]⟩ := rfl
  have o6 : (kindsOf (rowsIn 1)).length = 9 := by decide
  have O1 := Lib.hid o1
  have O2 := Lib.hid o2
  have O3 := Lib.hid o3
  have O4 := Lib.hid o4
  have O5 := Lib.hid o5
  have O6 := Lib.hid o6
  clear o1 o2 o3 o4 o5 o6
  go_enter Try.func7, Try.ntmps7
  go_wp2_with fail
  refine (of_any 6 3 _).mono ?_
  rintro e w1 ⟨v1, rfl, h1, g1⟩
  obtain ⟨a1, c1, rfl, -⟩ := (Sl.of_own h1).open
  rw [O1.out]
  clear h1
  go_wp2_with fail
  refine (of_any 8 1 _).mono ?_
  rintro e w2 ⟨v2, rfl, h2, g2⟩
  rw [O2.out]
  clear h2
  have g02 := Grew.trans g1 g2
  clear g1 g2
  go_wp2_with fail
  refine (find_any 6 3 7 _).mono ?_
  rintro e w3 ⟨rfl, g3⟩
  rw [O3.out]
  simp only [foundV, specV]
  have g03 := Grew.trans g02 g3
  clear g02 g3
  go_wp2_with fail
  refine (wire_any 5 _).mono ?_
  rintro e w4 ⟨rfl, rfl⟩
  rw [show wireV 5 = (5, true) from rfl]
  go_wp2_with fail
  refine (kind_any _ _).mono ?_
  rintro e w5 ⟨rfl, g5⟩
  rw [O4.out]
  have g05 : Grew w w5 := (g03.alloc g03.size _).trans (g5.mono (by have := g03.size; simp; omega))
  have hb := (Blk.new w3 28 #[.int .i64 ((7 : Nat) : Int), .int .i64 ((3 : Nat) : Int), .int .i64 ((5 : Nat) : Int)]).grew g5
  have s0 := hb.cell 0
  have s1 := hb.cell 1
  have s2 := hb.cell 2
  simp at s0 s1 s2
  clear g03 g5 hb
  go_wp2_with fail
  refine (word_any 1 _).mono ?_
  rintro e w6 ⟨rfl, g6⟩
  rw [O5.out]
  go_wp2_with fail
  refine (most_any 9 _).mono ?_
  rintro e w7 ⟨rfl, rfl⟩
  rw [show mostV 9 = 7000 from rfl]
  go_wp2_with fail
  refine (kinds_any 1 _).mono ?_
  rintro e w8 ⟨v8, rfl, h8, g8⟩
  obtain ⟨a8, c8, rfl, -⟩ := (Sl.of_own h8).open
  rw [O6.out]
  clear h8
  go_wp2_with fail
  go_ret
  exact ⟨rfl, Grew.trans (Grew.trans g05 g6) g8⟩
end Go.Proofs.Ytciihinonoamlaa
