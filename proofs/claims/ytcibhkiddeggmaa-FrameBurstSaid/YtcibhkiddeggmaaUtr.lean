/- Package rescriptref03: One, First, Check: contracts. -/
import Derived.Test.YtcibhkiddeggmaaUtw
namespace Go.Proofs.Ytcibhkiddeggmaa
open Go Go.RowKit Go.Shelf

theorem r1_eq (s : ByteArray) (i : Nat) : r1 s i =
    if bAt s i < 128 then 1
    else if bAt s i / 32 = 6 ∧ contAt s (i + 1) = true then (if 128 ≤ bAt s i % 32 * 64 + bAt s (i + 1) % 64 then 2 else 0)
    else if bAt s i / 16 = 14 ∧ contAt s (i + 1) = true ∧ contAt s (i + 2) = true then
      (if 2048 ≤ bAt s i % 16 * 4096 + bAt s (i + 1) % 64 * 64 + bAt s (i + 2) % 64 ∧ ¬ (55296 ≤ bAt s i % 16 * 4096 + bAt s (i + 1) % 64 * 64 + bAt s (i + 2) % 64 ∧ bAt s i % 16 * 4096 + bAt s (i + 1) % 64 * 64 + bAt s (i + 2) % 64 < 57344) then 3 else 0)
    else if bAt s i / 8 = 30 ∧ contAt s (i + 1) = true ∧ contAt s (i + 2) = true ∧ contAt s (i + 3) = true then
      (if 65536 ≤ bAt s i % 8 * 262144 + bAt s (i + 1) % 64 * 4096 + bAt s (i + 2) % 64 * 64 + bAt s (i + 3) % 64 ∧ bAt s i % 8 * 262144 + bAt s (i + 1) % 64 * 4096 + bAt s (i + 2) % 64 * 64 + bAt s (i + 3) % 64 ≤ 1114111 then 4 else 0)
    else 0 := by
  have h0 := bAt_lt s i; have h1 := bAt_lt s (i + 1); have h2 := bAt_lt s (i + 2); have h3 := bAt_lt s (i + 3)
  unfold r1
  rw [decode_eq]
  repeat' split
  all_goals first | rfl | (simp only at *; omega) | simp_all
/-- the number so far, and the bytes ahead of j go on -/
def accN (s : ByteArray) (i n0 : Nat) : Nat → Nat
  | 0 => n0
  | j + 1 => accN s i n0 j * 64 + bAt s (i + j + 1) % 64
def goOn (s : ByteArray) (i : Nat) : Nat → Bool
  | 0 => true
  | j + 1 => goOn s i j && contAt s (i + j + 1)
/-- how many others, the first one's bits, the least number -/
def oneK (b : Nat) : Nat := if b / 32 = 6 then 1 else if b / 16 = 14 then 2 else 3
def oneN (b : Nat) : Nat := if b / 32 = 6 then b % 32 else if b / 16 = 14 then b % 16 else b % 8
def oneL (b : Nat) : Nat := if b / 32 = 6 then 128 else if b / 16 = 14 then 2048 else 65536
def runeB (n : Nat) : Bool := decide (n ≤ 1114111) && (decide (n < 55296) || decide (57343 < n))
theorem goOn_false (s : ByteArray) (i : Nat) : ∀ (k j : Nat), goOn s i j = false → j ≤ k → goOn s i k = false
  | 0, j, h, hj => by obtain rfl : j = 0 := by omega
                      exact h
  | k + 1, j, h, hj => by
    by_cases e : j = k + 1
    · subst e; exact h
    · rw [goOn, goOn_false s i k j h (by omega)]; rfl
theorem r1_bad (s : ByteArray) (i : Nat) (h1 : 128 ≤ bAt s i) (h2 : bAt s i < 192 ∨ 248 ≤ bAt s i) : r1 s i = 0 := by
  rw [r1_eq]
  rw [if_neg (by omega), if_neg (by omega), if_neg (by omega), if_neg (by omega)]
theorem r1_one (s : ByteArray) (i : Nat) (h1 : 192 ≤ bAt s i) (h2 : bAt s i < 248) :
    r1 s i = if goOn s i (oneK (bAt s i)) = true ∧ oneL (bAt s i) ≤ accN s i (oneN (bAt s i)) (oneK (bAt s i)) ∧ runeB (accN s i (oneN (bAt s i)) (oneK (bAt s i))) = true then oneK (bAt s i) + 1 else 0 := by
  have g1 := bAt_lt s (i + 1); have g2 := bAt_lt s (i + 2); have g3 := bAt_lt s (i + 3)
  rw [r1_eq, if_neg (by omega)]
  unfold oneK oneL oneN
  by_cases c1 : bAt s i / 32 = 6
  · simp only [c1, if_true, true_and, goOn, accN, Bool.true_and, Nat.add_zero]
    by_cases e1 : contAt s (i + 1) = true
    · rw [if_pos e1]
      by_cases d : 128 ≤ bAt s i % 32 * 64 + bAt s (i + 1) % 64
      · rw [if_pos d, if_pos ⟨e1, d, by simp [runeB]; omega⟩]
      · rw [if_neg d, if_neg (fun h => d h.2.1)]
    · rw [if_neg e1, if_neg (by omega), if_neg (by omega), if_neg (fun h => e1 h.1)]
  rw [if_neg (fun h => c1 h.1)]
  by_cases c2 : bAt s i / 16 = 14
  · simp only [c1, c2, if_true, if_false, true_and, goOn, accN, Bool.true_and, Nat.add_zero, Bool.and_eq_true]
    have en : (bAt s i % 16 * 64 + bAt s (i + 1) % 64) * 64 + bAt s (i + 1 + 1) % 64 = bAt s i % 16 * 4096 + bAt s (i + 1) % 64 * 64 + bAt s (i + 2) % 64 := by
      rw [show i + 1 + 1 = i + 2 from rfl]; omega
    rw [en]
    obtain ⟨v, hv0, hv⟩ : ∃ v, v = bAt s i % 16 * 4096 + bAt s (i + 1) % 64 * 64 + bAt s (i + 2) % 64 ∧ v < 65536 := ⟨_, rfl, by omega⟩
    rw [← hv0]
    by_cases e1 : contAt s (i + 1) = true ∧ contAt s (i + 2) = true
    · rw [if_pos e1]
      by_cases d : 2048 ≤ v ∧ ¬ (55296 ≤ v ∧ v < 57344)
      · rw [if_pos d, if_pos ⟨e1, d.1, by simp [runeB]; omega⟩]
      · rw [if_neg d, if_neg (fun h => d ⟨h.2.1, by have := h.2.2; simp [runeB] at this; omega⟩)]
    · rw [if_neg e1, if_neg (by omega), if_neg (fun h => e1 h.1)]
  rw [if_neg (fun h => c2 h.1)]
  have c3 : bAt s i / 8 = 30 := by omega
  simp only [c1, c2, c3, if_false, true_and, goOn, accN, Bool.true_and, Nat.add_zero, Bool.and_eq_true]
  have en : ((bAt s i % 8 * 64 + bAt s (i + 1) % 64) * 64 + bAt s (i + 1 + 1) % 64) * 64 + bAt s (i + 2 + 1) % 64 = bAt s i % 8 * 262144 + bAt s (i + 1) % 64 * 4096 + bAt s (i + 2) % 64 * 64 + bAt s (i + 3) % 64 := by
    rw [show i + 1 + 1 = i + 2 from rfl, show i + 2 + 1 = i + 3 from rfl]; omega
  rw [en]
  generalize bAt s i % 8 * 262144 + bAt s (i + 1) % 64 * 4096 + bAt s (i + 2) % 64 * 64 + bAt s (i + 3) % 64 = v
  by_cases e1 : contAt s (i + 1) = true ∧ contAt s (i + 2) = true ∧ contAt s (i + 3) = true
  · rw [if_pos e1]
    by_cases d : 65536 ≤ v ∧ v ≤ 1114111
    · rw [if_pos d, if_pos ⟨⟨⟨e1.1, e1.2.1⟩, e1.2.2⟩, d.1, by simp [runeB]; omega⟩]
    · rw [if_neg d, if_neg (fun h => d ⟨h.2.1, by have := h.2.2; simp [runeB] at this; omega⟩)]
  · rw [if_neg e1, if_neg (fun h => e1 ⟨h.1.1.1, h.1.1.2, h.1.2⟩)]
theorem accN_lt (s : ByteArray) (i n0 : Nat) (h : n0 < 32) : ∀ j, j ≤ 3 → accN s i n0 j < 8388608
  | 0, _ => by simp [accN]; omega
  | 1, _ => by simp [accN]; omega
  | 2, _ => by simp [accN]; omega
  | 3, _ => by simp [accN]; omega
  | j + 4, h => by omega

end Go.Proofs.Ytcibhkiddeggmaa
