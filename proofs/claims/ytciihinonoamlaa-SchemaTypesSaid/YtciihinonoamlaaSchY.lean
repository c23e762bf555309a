/- The law SchemaTypes returns true: its walk. -/
import Derived.Test.YtciihinonoamlaaSchV
namespace Go.Proofs.Ytciihinonoamlaa
open Go Go.RowKit Go.Shelf

set_option maxRecDepth 10000 in
set_option maxHeartbeats 4000000 in
theorem types_any (t : Int) (w : World) : Calls Try.prog 4 #[.int .i64 t] w fun e w' => e = .returned (.bool true) ∧ Grew w w' := by
  by_cases h : 1 ≤ t ∧ t ≤ 10
  · obtain ⟨h1, h2⟩ := h
    have hw : wireV t = (rwireV t, true) := by
      have : t = 1 ∨ t = 2 ∨ t = 3 ∨ t = 4 ∨ t = 5 ∨ t = 6 ∨ t = 7 ∨ t = 8 ∨ t = 9 ∨ t = 10 := by omega
      rcases this with rfl | rfl | rfl | rfl | rfl | rfl | rfl | rfl | rfl | rfl <;> rfl
    have HW := Lib.hid hw
    clear hw
    go_enter Try.func4, Try.ntmps4
    go_wp2_with fail
    refine (live_any _).mono ?_
    rintro e w1 ⟨rfl, g1⟩
    go_wp2_with fail
    refine (wire_any t _).mono ?_
    rintro e w2 ⟨rfl, rfl⟩
    rw [HW.out]
    go_wp2_with fail
    refine (rwire_any t _).mono ?_
    rintro e w2 ⟨rfl, rfl⟩
    go_wp2_with fail
    refine (most_any t _).mono ?_
    rintro e w2 ⟨rfl, rfl⟩
    go_wp2_with fail
    refine (rmost_any t _).mono ?_
    rintro e w2 ⟨rfl, rfl⟩
    go_wp2
    go_ret
    exact ⟨rfl, g1⟩
  · have hw : wireV t = (0, false) := by
      unfold wireV
      repeat rw [if_neg (by omega)]
    have HW := Lib.hid hw
    clear hw
    by_cases h1 : 1 ≤ t
    · have h2 : ¬ t ≤ 10 := by omega
      clear h
      go_enter Try.func4, Try.ntmps4
      go_wp2_with fail
      refine (live_any _).mono ?_
      rintro e w1 ⟨rfl, g1⟩
      go_wp2_with fail
      refine (wire_any t _).mono ?_
      rintro e w2 ⟨rfl, rfl⟩
      rw [HW.out]
      go_wp2_with fail
      refine (most_any t _).mono ?_
      rintro e w2 ⟨rfl, rfl⟩
      go_wp2_with fail
      refine (rmost_any t _).mono ?_
      rintro e w2 ⟨rfl, rfl⟩
      go_wp2
      go_ret
      exact ⟨rfl, g1⟩
    · clear h
      go_enter Try.func4, Try.ntmps4
      go_wp2_with fail
      refine (live_any _).mono ?_
      rintro e w1 ⟨rfl, g1⟩
      go_wp2_with fail
      refine (wire_any t _).mono ?_
      rintro e w2 ⟨rfl, rfl⟩
      rw [HW.out]
      go_wp2_with fail
      refine (most_any t _).mono ?_
      rintro e w2 ⟨rfl, rfl⟩
      go_wp2_with fail
      refine (rmost_any t _).mono ?_
      rintro e w2 ⟨rfl, rfl⟩
      go_wp2
      go_ret
      exact ⟨rfl, g1⟩
end Go.Proofs.Ytciihinonoamlaa
