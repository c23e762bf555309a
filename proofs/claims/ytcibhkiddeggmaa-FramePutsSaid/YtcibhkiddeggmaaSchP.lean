/- Package schema: Wire, Most, Word, Kind; the reference's Wire, Most, Words; the law's sort: contracts. -/
import Derived.Test.YtcibhkiddeggmaaSchO
namespace Go.Proofs.Ytcibhkiddeggmaa
open Go Go.RowKit Go.Shelf

/-- a type's wire type -/
def wireV (t : Int) : Int × Bool :=
  if t = 1 then (0, true) else if t = 2 then (0, true) else if t = 3 then (0, true) else if t = 4 then (0, true) else if t = 5 then (5, true) else if t = 6 then (1, true)
  else if t = 7 then (2, true) else if t = 8 then (2, true) else if t = 9 then (2, true) else if t = 10 then (2, true) else (0, false)
set_option maxHeartbeats 1000000 in
theorem wire_any (t : Int) (w : World) : Calls Try.prog 73 #[.int .i64 t] w fun e w' => e = .returned (.tuple #[.int .u8 (wireV t).1, .bool (wireV t).2]) ∧ w = w' := by
  go_enter Try.func73, Try.ntmps73
  by_cases h1 : t = 1
  · subst h1; go_wp2; go_ret2; exact ⟨rfl, rfl⟩
  by_cases h2 : t = 2
  · subst h2; go_wp2; go_ret2; exact ⟨rfl, rfl⟩
  by_cases h3 : t = 3
  · subst h3; go_wp2; go_ret2; exact ⟨rfl, rfl⟩
  by_cases h4 : t = 4
  · subst h4; go_wp2; go_ret2; exact ⟨rfl, rfl⟩
  by_cases h5 : t = 5
  · subst h5; go_wp2; go_ret2; exact ⟨rfl, rfl⟩
  by_cases h6 : t = 6
  · subst h6; go_wp2; go_ret2; exact ⟨rfl, rfl⟩
  by_cases h7 : t = 7
  · subst h7; go_wp2; go_ret2; exact ⟨rfl, rfl⟩
  by_cases h8 : t = 8
  · subst h8; go_wp2; go_ret2; exact ⟨rfl, rfl⟩
  by_cases h9 : t = 9
  · subst h9; go_wp2; go_ret2; exact ⟨rfl, rfl⟩
  by_cases h10 : t = 10
  · subst h10; go_wp2; go_ret2; exact ⟨rfl, rfl⟩
  have e1 : (t == 1) = false := by simpa using h1
  have e2 : (t == 2) = false := by simpa using h2
  have e3 : (t == 3) = false := by simpa using h3
  have e4 : (t == 4) = false := by simpa using h4
  have e5 : (t == 5) = false := by simpa using h5
  have e6 : (t == 6) = false := by simpa using h6
  have e7 : (t == 7) = false := by simpa using h7
  have e8 : (t == 8) = false := by simpa using h8
  have e9 : (t == 9) = false := by simpa using h9
  have e10 : (t == 10) = false := by simpa using h10
  have hw : wireV t = (0, false) := by simp [wireV, h1, h2, h3, h4, h5, h6, h7, h8, h9, h10]
  have HW := Lib.hid hw
  clear hw h1 h2 h3 h4 h5 h6 h7 h8 h9 h10
  go_wp2
  go_ret2
  exact ⟨by rw [HW.out]; rfl, rfl⟩

def mostV (t : Int) : Int := if t = 7 then 64 else if t = 10 then 64 else if t = 8 then 4096 else if t = 9 then 7000 else 0
set_option maxHeartbeats 1000000 in
theorem most_any (t : Int) (w : World) : Calls Try.prog 70 #[.int .i64 t] w fun e w' => e = .returned (.int .i64 (mostV t)) ∧ w = w' := by
  go_enter Try.func70, Try.ntmps70
  by_cases h7 : t = 7
  · subst h7; go_wp2; go_ret; exact ⟨rfl, rfl⟩
  by_cases h10 : t = 10
  · subst h10; go_wp2; go_ret; exact ⟨rfl, rfl⟩
  by_cases h8 : t = 8
  · subst h8; go_wp2; go_ret; exact ⟨rfl, rfl⟩
  by_cases h9 : t = 9
  · subst h9; go_wp2; go_ret; exact ⟨rfl, rfl⟩
  have e7 : (t == 7) = false := by simpa using h7
  have e8 : (t == 8) = false := by simpa using h8
  have e9 : (t == 9) = false := by simpa using h9
  have e10 : (t == 10) = false := by simpa using h10
  have hw : mostV t = 0 := by simp [mostV, h7, h8, h9, h10]
  have HW := Lib.hid hw
  clear hw h7 h8 h9 h10
  go_wp2
  go_ret
  exact ⟨by rw [HW.out]; rfl, rfl⟩

def rwireV (t : Int) : Int := if t ≤ 4 then 0 else if t = 5 then 5 else if t = 6 then 1 else 2
def sortV (t : Int) : Int := if t ≤ 6 then 0 else if t < 10 then 1 else 2
end Go.Proofs.Ytcibhkiddeggmaa
