/- Package hello and its reference: Choose, when, first, Ask, Accept: contracts. -/
import Derived.Test.YtcjmnpcghmcodaaVa9
import Derived.Test.YtcjmnpcghmcodaaGrw
namespace Go.Proofs.Ytcjmnpcghmcodaa
open Go Go.RowKit Go.Shelf

/-- the highest version that both know -/
def chV (lo hi : Nat) : Nat × Bool := if min hi 3 < max lo 1 then (0, false) else (min hi 3, true)
theorem chV_yes {lo hi : Nat} (h : ¬ min hi 3 < max lo 1) : chV lo hi = (min hi 3, true) := by unfold chV; rw [if_neg h]
theorem chV_no {lo hi : Nat} (h : min hi 3 < max lo 1) : chV lo hi = (0, false) := by unfold chV; rw [if_pos h]
set_option maxHeartbeats 1000000 in
theorem choose_any (lo hi : Nat) (w : World) : Calls Try.prog 23 #[.int .u64 lo, .int .u64 hi] w fun e w' => e = .returned (.tuple #[.int .i64 ((chV lo hi).1 : Nat), .bool (chV lo hi).2]) ∧ w = w' := by
  go_enter Try.func23, Try.ntmps23
  go_wp2
  all_goals (
    go_ret2
    refine ⟨?_, rfl⟩
    first
      | (rw [chV_no (by omega)]; rfl)
      | (rw [chV_yes (by omega), show min hi 3 = 3 by omega]; rfl)
      | (rw [chV_yes (by omega), show min hi 3 = hi by omega]; rfl))
theorem chV_at {lo hi k : Nat} (h1 : 1 ≤ k) (h3 : k ≤ 3) (hl : lo ≤ k) (hh : k ≤ hi) (hn : ∀ j, k < j → j ≤ 3 → ¬ (lo ≤ j ∧ j ≤ hi)) : chV lo hi = (k, true) := by
  have : min hi 3 = k := by
    rcases (show k = 3 ∨ k = 2 ∨ k = 1 by omega) with rfl | rfl | rfl
    · omega
    · have := hn 3 (by omega) (by omega); omega
    · have := hn 3 (by omega) (by omega); have := hn 2 (by omega) (by omega); omega
  rw [chV_yes (by omega), this]
theorem chV_none {lo hi : Nat} (hn : ∀ j, 0 < j → j ≤ 3 → ¬ (lo ≤ j ∧ j ≤ hi)) : chV lo hi = (0, false) := by
  have h1 := hn 1 (by omega) (by omega); have h2 := hn 2 (by omega) (by omega); have h3 := hn 3 (by omega) (by omega)
  exact chV_no (by omega)
set_option maxHeartbeats 1000000 in
theorem rchoose_any (lo hi : Nat) (w : World) : Calls Try.prog 24 #[.int .u64 lo, .int .u64 hi] w fun e w' => e = .returned (.tuple #[.int .i64 ((chV lo hi).1 : Nat), .bool (chV lo hi).2]) ∧ w = w' := by
  go_enter Try.func24, Try.ntmps24
  go_wp2
  go_loop [6] (fun v => ∃ k : Nat, k ≤ 3 ∧ v = .int .i64 k ∧ RowKit.Hid (∀ j, k < j → j ≤ 3 → ¬ (lo ≤ j ∧ j ≤ hi))) (fun v => (intOf v).toNat)
  case atStart => exact ⟨3, by omega, rfl, Lib.hid (fun j h1 h2 => by omega)⟩
  case round =>
    obtain ⟨k, hk, rfl, hI⟩ := hrel
    have hk3 : (k : Int) ≤ 3 := by omega
    by_cases h0 : k = 0
    · subst h0
      have E := Lib.hid (chV_none (lo := lo) (hi := hi) hI.out)
      go_wp2
      go_ret2
      exact ⟨by rw [E.out]; rfl, rfl⟩
    have h1 : (1 : Int) ≤ (k : Int) := by omega
    by_cases hl : lo ≤ k
    · have z1 : decide (lo ≤ k) = true := by simpa using hl
      by_cases hh : k ≤ hi
      · have z2 : decide (k ≤ hi) = true := by simpa using hh
        have E := Lib.hid (chV_at (lo := lo) (hi := hi) (by omega) hk hl hh hI.out)
        clear hl hh
        go_wp2
        go_ret2
        exact ⟨by rw [E.out]; rfl, rfl⟩
      · have z2 : decide (k ≤ hi) = false := by simpa using hh
        have HN := Lib.hid (fun (j : Nat) (h1 : k - 1 < j) (h2 : j ≤ 3) => show ¬ (lo ≤ j ∧ j ≤ hi) from by
          by_cases e : j = k
          · subst e; omega
          · exact hI.out j (by omega) h2)
        clear hl hh
        go_wp2
        go_round
        case rel => exact ⟨k - 1, by omega, by rw [show (((k - 1 : Nat) : Int)) = (k : Int) - 1 from by omega], HN⟩
        case measure => simp [intOf]; omega
    · have z1 : decide (lo ≤ k) = false := by simpa using hl
      have HN := Lib.hid (fun (j : Nat) (h1 : k - 1 < j) (h2 : j ≤ 3) => show ¬ (lo ≤ j ∧ j ≤ hi) from by
        by_cases e : j = k
        · subst e; omega
        · exact hI.out j (by omega) h2)
      clear hl
      go_wp2
      go_round
      case rel => exact ⟨k - 1, by omega, by rw [show (((k - 1 : Nat) : Int)) = (k : Int) - 1 from by omega], HN⟩
      case measure => simp [intOf]; omega
theorem when_any (b : Bool) (n : Int) (w : World) : Calls Try.prog 40 #[.bool b, .int .i64 n] w fun e w' => e = .returned (.int .i64 (if b = true then n else 0)) ∧ w = w' := by
  cases b with
  | true =>
    go_enter Try.func40, Try.ntmps40
    go_wp2
    go_ret
    exact ⟨rfl, rfl⟩
  | false =>
    go_enter Try.func40, Try.ntmps40
    go_wp2
    go_ret
    exact ⟨rfl, rfl⟩
/-- the first that is one, of four -/
def first4 (a b c d : Nat) : Nat := if a ≠ 0 then a else if b ≠ 0 then b else if c ≠ 0 then c else d
set_option maxHeartbeats 2000000 in
theorem hfirst_any (a b c d B : Nat) (w : World) (c0 : w.cell? ⟨B, 0, none⟩ = some (.int .i64 a)) (c1 : w.cell? ⟨B, 1, none⟩ = some (.int .i64 b)) (c2 : w.cell? ⟨B, 2, none⟩ = some (.int .i64 c)) (c3 : w.cell? ⟨B, 3, none⟩ = some (.int .i64 d)) :
    Calls Try.prog 39 #[.slice (some ⟨B, 0, none⟩) 4 4] w fun e w' => e = .returned (.int .i64 (first4 a b c d : Nat)) ∧ w = w' := by
  obtain ⟨E, hE⟩ : ∃ E : Nat → Nat, E = fun k => if k = 0 then a else if k = 1 then b else if k = 2 then c else d := ⟨_, rfl⟩
  have hc : ∀ k, k < 4 → w.cell? ⟨B, k, none⟩ = some (.int .i64 (E k)) := fun k hk => by
    rcases (show k = 0 ∨ k = 1 ∨ k = 2 ∨ k = 3 by omega) with e | e | e | e <;> (subst e; subst hE; assumption)
  have hf : ∀ k, k < 4 → (∀ j, j < k → E j = 0) → E k ≠ 0 → first4 a b c d = E k := fun k hk hz hne => by
    subst hE
    have z0 := hz 0; have z1 := hz 1; have z2 := hz 2
    rcases (show k = 0 ∨ k = 1 ∨ k = 2 ∨ k = 3 by omega) with e | e | e | e <;> subst e <;> simp [first4] at * <;> simp [*]
  have hz : (∀ j, j < 4 → E j = 0) → first4 a b c d = 0 := fun hz => by
    subst hE
    have z0 := hz 0; have z1 := hz 1; have z2 := hz 2; have z3 := hz 3
    simp at z0 z1 z2 z3
    simp [first4, z0, z1, z2, z3]
  have HC := Lib.hid hc
  have HF := Lib.hid hf
  have HZ := Lib.hid hz
  clear hc hf hz c0 c1 c2 c3 hE
  go_enter Try.func39, Try.ntmps39
  go_wp2
  go_step3
  go_wp2
  go_step3
  go_wp2
  go_loop [3, 6] (fun v i => v = .int .i64 0 ∧ ∃ k : Nat, k ≤ 4 ∧ i = .int .i64 k ∧ RowKit.Hid (∀ j, j < k → E j = 0)) (fun _ i => 4 - (intOf i).toNat)
  case atStart => exact ⟨rfl, 0, by omega, rfl, Lib.hid (fun j h => by omega)⟩
  case round =>
    obtain ⟨rfl, k, hk, rfl, hI⟩ := hrel
    by_cases hlt : k < 4
    · have zi0 : (0 : Int) ≤ (k : Int) := by omega
      have zi : (k : Int) < 4 := by omega
      have x0 := HC.out k hlt
      by_cases he : E k = 0
      · have HN := Lib.hid (fun (j : Nat) (h : j < k + 1) => show E j = 0 from by
          by_cases e : j = k
          · rw [e]; exact he
          · exact hI.out j (by omega))
        rw [he] at x0
        clear he
        go_wp2
        go_round
        case rel => exact ⟨rfl, k + 1, by omega, by go_num, HN⟩
        case measure => simp [intOf]; omega
      · have HE := Lib.hid (HF.out k hlt hI.out he)
        have hne : ((E k : Int) != 0) = true := by simp; omega
        clear he
        go_wp2
        go_ret
        exact ⟨by rw [HE.out]; rfl, rfl⟩
    · obtain rfl : k = 4 := by omega
      have HE := Lib.hid (HZ.out hI.out)
      go_wp2
      go_ret
      exact ⟨by rw [HE.out]; rfl, rfl⟩
end Go.Proofs.Ytcjmnpcghmcodaa
