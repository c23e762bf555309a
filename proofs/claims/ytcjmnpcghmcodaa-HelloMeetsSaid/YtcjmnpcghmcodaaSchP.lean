/- Package schema: Wire, Most, Word, Kind; the reference's Wire, Most, Words; the law's sort: contracts. -/
import Derived.Test.YtcjmnpcghmcodaaSchO
namespace Go.Proofs.Ytcjmnpcghmcodaa
open Go Go.RowKit Go.Shelf

/-- a type's wire type -/
def wireV (t : Int) : Int × Bool :=
  if t = 1 then (0, true) else if t = 2 then (0, true) else if t = 3 then (0, true) else if t = 4 then (0, true) else if t = 5 then (5, true) else if t = 6 then (1, true)
  else if t = 7 then (2, true) else if t = 8 then (2, true) else if t = 9 then (2, true) else if t = 10 then (2, true) else (0, false)
def mostV (t : Int) : Int := if t = 7 then 64 else if t = 10 then 64 else if t = 8 then 4096 else if t = 9 then 7000 else 0
set_option maxHeartbeats 1000000 in
theorem most_any (t : Int) (w : World) : Calls Try.prog 44 #[.int .i64 t] w fun e w' => e = .returned (.int .i64 (mostV t)) ∧ w = w' := by
  go_enter Try.func44, Try.ntmps44
  by_cases h7 : t = 7
  · subst h7; go_wp2; go_ret; exact ⟨rfl, rfl⟩
  by_cases h10 : t = 10
  · subst h10; go_wp2; go_ret; exact ⟨rfl, rfl⟩
  by_cases h8 : t = 8
  · subst h8; go_wp2; go_ret; exact ⟨rfl, rfl⟩
  by_cases h9 : t = 9
  · subst h9; go_wp2; go_ret; exact ⟨rfl, rfl⟩
  have e7 : (t == 7) = false := by simpa using h7
  have e8 : (t == 8) = false := by simpa using h8
  have e9 : (t == 9) = false := by simpa using h9
  have e10 : (t == 10) = false := by simpa using h10
  have hw : mostV t = 0 := by simp [mostV, h7, h8, h9, h10]
  have HW := Lib.hid hw
  clear hw h7 h8 h9 h10
  go_wp2
  go_ret
  exact ⟨by rw [HW.out]; rfl, rfl⟩

set_option maxHeartbeats 1000000 in
theorem rmost_any (t : Int) (w : World) : Calls Try.prog 47 #[.int .i64 t] w fun e w' => e = .returned (.int .i64 (mostV t)) ∧ w = w' := by
  go_enter Try.func47, Try.ntmps47
  by_cases h7 : t = 7
  · subst h7; go_wp2; go_ret; exact ⟨rfl, rfl⟩
  by_cases h10 : t = 10
  · subst h10; go_wp2; go_ret; exact ⟨rfl, rfl⟩
  by_cases h8 : t = 8
  · subst h8; go_wp2; go_ret; exact ⟨rfl, rfl⟩
  by_cases h9 : t = 9
  · subst h9; go_wp2; go_ret; exact ⟨rfl, rfl⟩
  have e7 : (t == 7) = false := by simpa using h7
  have e8 : (t == 8) = false := by simpa using h8
  have e9 : (t == 9) = false := by simpa using h9
  have e10 : (t == 10) = false := by simpa using h10
  have hw : mostV t = 0 := by simp [mostV, h7, h8, h9, h10]
  have HW := Lib.hid hw
  clear hw h7 h8 h9 h10
  go_wp2
  go_ret
  exact ⟨by rw [HW.out]; rfl, rfl⟩
def rwireV (t : Int) : Int := if t ≤ 4 then 0 else if t = 5 then 5 else if t = 6 then 1 else 2
def sortV (t : Int) : Int := if t ≤ 6 then 0 else if t < 10 then 1 else 2
end Go.Proofs.Ytcjmnpcghmcodaa
