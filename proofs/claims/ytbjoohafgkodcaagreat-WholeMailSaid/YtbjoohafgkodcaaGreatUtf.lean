/- Runes of a text, in plain words: how many bytes the rune at a place has. No statement of the program. -/
import Derived.Test.YtbjoohafgkodcaaGreatKit
import Derived.Lib.OthersKept
import Derived.Laws.RangeAny
import Derived.Laws.Runes
namespace Go.Proofs.YtbjoohafgkodcaaGreat
open Go Go.RowKit Go.Shelf

/-- how many bytes the rune at a place has; 0: there is none -/
def r1 (s : ByteArray) (i : Nat) : Nat := if (Utf8.decode s i).1 = 65533 then (if (Utf8.decode s i).2 = 3 then 3 else 0) else (Utf8.decode s i).2
def bAt (s : ByteArray) (i : Nat) : Nat := (s.get! i).toNat
theorem bAt_lt (s : ByteArray) (i : Nat) : bAt s i < 256 := (s.get! i).toNat_lt
def contAt (s : ByteArray) (i : Nat) : Bool := decide (i < s.size) && bAt s i / 64 == 2
/-- decode, by cases -/
theorem decode_eq (s : ByteArray) (i : Nat) : Utf8.decode s i =
    if bAt s i < 128 then (bAt s i, 1)
    else if bAt s i / 32 = 6 ∧ contAt s (i + 1) = true then
      (if 128 ≤ bAt s i % 32 * 64 + bAt s (i + 1) % 64 then (bAt s i % 32 * 64 + bAt s (i + 1) % 64, 2) else (65533, 1))
    else if bAt s i / 16 = 14 ∧ contAt s (i + 1) = true ∧ contAt s (i + 2) = true then
      (if 2048 ≤ bAt s i % 16 * 4096 + bAt s (i + 1) % 64 * 64 + bAt s (i + 2) % 64 ∧ ¬ (55296 ≤ bAt s i % 16 * 4096 + bAt s (i + 1) % 64 * 64 + bAt s (i + 2) % 64 ∧ bAt s i % 16 * 4096 + bAt s (i + 1) % 64 * 64 + bAt s (i + 2) % 64 < 57344) then (bAt s i % 16 * 4096 + bAt s (i + 1) % 64 * 64 + bAt s (i + 2) % 64, 3) else (65533, 1))
    else if bAt s i / 8 = 30 ∧ contAt s (i + 1) = true ∧ contAt s (i + 2) = true ∧ contAt s (i + 3) = true then
      (if 65536 ≤ bAt s i % 8 * 262144 + bAt s (i + 1) % 64 * 4096 + bAt s (i + 2) % 64 * 64 + bAt s (i + 3) % 64 ∧ bAt s i % 8 * 262144 + bAt s (i + 1) % 64 * 4096 + bAt s (i + 2) % 64 * 64 + bAt s (i + 3) % 64 ≤ 1114111 then (bAt s i % 8 * 262144 + bAt s (i + 1) % 64 * 4096 + bAt s (i + 2) % 64 * 64 + bAt s (i + 3) % 64, 4) else (65533, 1))
    else (65533, 1) := by
  have h0 := bAt_lt s i; have h1 := bAt_lt s (i + 1); have h2 := bAt_lt s (i + 2); have h3 := bAt_lt s (i + 3)
  unfold Utf8.decode Utf8.valid Utf8.runeError contAt
  simp only [Nat.add_zero, ← show ∀ k, bAt s k = (s.get! k).toNat from fun _ => rfl]
  generalize bAt s i = b0 at *
  generalize bAt s (i + 1) = b1 at *
  generalize bAt s (i + 2) = b2 at *
  generalize bAt s (i + 3) = b3 at *
  by_cases c0 : b0 < 128
  · rw [if_pos c0, if_pos c0]
  rw [if_neg c0, if_neg c0]
  by_cases c1 : b0 / 32 = 6 ∧ (decide (i + 1 < s.size) && b1 / 64 == 2) = true
  · have e1 : (b0 / 32 == 6 && (decide (i + 1 < s.size) && b1 / 64 == 2)) = true := by simpa using c1
    rw [if_pos e1, if_pos c1]
  have e1 : ¬ (b0 / 32 == 6 && (decide (i + 1 < s.size) && b1 / 64 == 2)) = true := by simpa using c1
  rw [if_neg e1, if_neg c1]
  by_cases c2 : b0 / 16 = 14 ∧ (decide (i + 1 < s.size) && b1 / 64 == 2) = true ∧ (decide (i + 2 < s.size) && b2 / 64 == 2) = true
  · have e2 : (b0 / 16 == 14 && (decide (i + 1 < s.size) && b1 / 64 == 2) && (decide (i + 2 < s.size) && b2 / 64 == 2)) = true := by simpa [and_assoc] using c2
    rw [if_pos e2, if_pos c2]
    generalize hv : b0 % 16 * 4096 + b1 % 64 * 64 + b2 % 64 = v
    have hv2 : v < 65536 := by omega
    by_cases d : 2048 ≤ v ∧ ¬ (55296 ≤ v ∧ v < 57344)
    · rw [if_pos d, if_pos (by simp; omega)]
    · rw [if_neg d, if_neg (by simp; omega)]
  have e2 : ¬ (b0 / 16 == 14 && (decide (i + 1 < s.size) && b1 / 64 == 2) && (decide (i + 2 < s.size) && b2 / 64 == 2)) = true := by simpa [and_assoc] using c2
  rw [if_neg e2, if_neg c2]
  by_cases c3 : b0 / 8 = 30 ∧ (decide (i + 1 < s.size) && b1 / 64 == 2) = true ∧ (decide (i + 2 < s.size) && b2 / 64 == 2) = true ∧ (decide (i + 3 < s.size) && b3 / 64 == 2) = true
  · have e3 : (b0 / 8 == 30 && (decide (i + 1 < s.size) && b1 / 64 == 2) && (decide (i + 2 < s.size) && b2 / 64 == 2) && (decide (i + 3 < s.size) && b3 / 64 == 2)) = true := by simpa [and_assoc] using c3
    rw [if_pos e3, if_pos c3]
    generalize b0 % 8 * 262144 + b1 % 64 * 4096 + b2 % 64 * 64 + b3 % 64 = v
    by_cases d : 65536 ≤ v ∧ v ≤ 1114111
    · rw [if_pos d, if_pos (by simp; omega)]
    · rw [if_neg d, if_neg (by simp; omega)]
  · have e3 : ¬ (b0 / 8 == 30 && (decide (i + 1 < s.size) && b1 / 64 == 2) && (decide (i + 2 < s.size) && b2 / 64 == 2) && (decide (i + 3 < s.size) && b3 / 64 == 2)) = true := by simpa [and_assoc] using c3
    rw [if_neg e3, if_neg c3]
theorem decode_width (s : ByteArray) (i : Nat) : 1 ≤ (Utf8.decode s i).2 ∧ (Utf8.decode s i).2 ≤ 4 := by
  rw [decode_eq]; repeat' split
  all_goals simp
/-- a rune's own bytes are as many as were read -/
theorem decode_size (s : ByteArray) (i : Nat) (h : (Utf8.decode s i).1 ≠ 65533) : (Utf8.encode ((Utf8.decode s i).1 : Nat)).size = (Utf8.decode s i).2 := by
  have h0 := bAt_lt s i; have h1 := bAt_lt s (i + 1); have h2 := bAt_lt s (i + 2); have h3 := bAt_lt s (i + 3)
  have key : ∀ c k : Nat, (k = 1 ∧ c < 128) ∨ (k = 2 ∧ 128 ≤ c ∧ c < 2048) ∨ (k = 3 ∧ 2048 ≤ c ∧ c < 65536 ∧ ¬ (55296 ≤ c ∧ c < 57344)) ∨ (k = 4 ∧ 65536 ≤ c ∧ c ≤ 1114111) → (Utf8.encode (c : Nat)).size = k := by
    intro c k hc
    have hv : Utf8.valid (c : Int) = true := by simp [Utf8.valid]; omega
    unfold Utf8.encode
    rw [if_pos hv]
    simp only [Int.toNat_natCast]
    rcases hc with ⟨rfl, e⟩ | ⟨rfl, e⟩ | ⟨rfl, e⟩ | ⟨rfl, e⟩
    · rw [if_pos (by omega)]; rfl
    · rw [if_neg (by omega), if_pos (by omega)]; rfl
    · rw [if_neg (by omega), if_neg (by omega), if_pos (by omega)]; rfl
    · rw [if_neg (by omega), if_neg (by omega), if_neg (by omega)]; rfl
  apply key
  revert h
  rw [decode_eq]
  repeat' split
  all_goals simp only [ne_eq, not_true, false_implies]
  all_goals (intro _; simp; omega)
theorem r1_le (s : ByteArray) (i : Nat) : r1 s i ≤ 4 := by
  have := decode_width s i
  unfold r1; repeat' split
  all_goals omega
theorem r1_width (s : ByteArray) (i : Nat) (h : r1 s i ≠ 0) : r1 s i = (Utf8.decode s i).2 := by
  unfold r1 at h ⊢; split
  · rename_i e; rw [if_pos e] at h
    split
    · rename_i e2; exact e2.symm
    · rename_i e2; rw [if_neg e2] at h; exact absurd rfl h
  · rfl
theorem r1_in (s : ByteArray) (i : Nat) (hi : i < s.size) : i + r1 s i ≤ s.size := by
  by_cases h : r1 s i = 0
  · omega
  rw [r1_width s i h, decode_eq]
  have hc : ∀ k, contAt s k = true → k < s.size := fun k hk => by
    unfold contAt at hk; simp at hk; exact hk.1
  repeat' split
  all_goals (try (simp only; omega))
  · rename_i _ h1 _; have := hc _ h1.2; simp only; omega
  · rename_i _ _ h1 _; have := hc _ h1.2.2; simp only; omega
  · rename_i _ _ _ h1 _; have := hc _ h1.2.2.2; simp only; omega
/-- 'wrong' was read where the three bytes of it stand, or where none could be read -/
theorem wrong_is (s : ByteArray) (i : Nat) (_hi : i < s.size) (h : (Utf8.decode s i).1 = 65533) : (Utf8.decode s i).2 = 3 ↔ (i + 3 ≤ s.size ∧ bAt s i = 239 ∧ bAt s (i + 1) = 191 ∧ bAt s (i + 2) = 189) := by
  have h0 := bAt_lt s i; have h1 := bAt_lt s (i + 1); have h2 := bAt_lt s (i + 2); have h3 := bAt_lt s (i + 3)
  rw [decode_eq] at h ⊢
  by_cases c0 : bAt s i < 128
  · rw [if_pos c0] at h ⊢; simp only at h; omega
  rw [if_neg c0] at h ⊢
  by_cases c1 : bAt s i / 32 = 6 ∧ contAt s (i + 1) = true
  · rw [if_pos c1] at h ⊢
    split at h
    · simp only at h; omega
    · rename_i d; rw [if_neg d]; simp; omega
  rw [if_neg c1] at h ⊢
  by_cases c2 : bAt s i / 16 = 14 ∧ contAt s (i + 1) = true ∧ contAt s (i + 2) = true
  · rw [if_pos c2] at h ⊢
    have e1 := c2.2.1; have e2 := c2.2.2
    unfold contAt at e1 e2
    simp only [Bool.and_eq_true, decide_eq_true_eq, beq_iff_eq] at e1 e2
    split at h
    · rename_i d; rw [if_pos d]; simp only at h ⊢; constructor
      · intro _; omega
      · intro _; trivial
    · rename_i d; rw [if_neg d]; simp; omega
  rw [if_neg c2] at h ⊢
  have key : ¬ (i + 3 ≤ s.size ∧ bAt s i = 239 ∧ bAt s (i + 1) = 191 ∧ bAt s (i + 2) = 189) := by
    rintro ⟨e0, e1, e2, e3⟩
    exact c2 ⟨by omega, by simp [contAt, e2]; omega, by simp [contAt, e3]; omega⟩
  split at h
  · rename_i c3; rw [if_pos c3]
    split at h
    · simp only at h; omega
    · rename_i d; rw [if_neg d]; simp [key]
  · rename_i c3; rw [if_neg c3]; simp [key]
/-- where bytes begin that are no rune's -/
def firstF (s : ByteArray) : Nat → Nat → Option Nat
  | 0, _ => none
  | f + 1, i => if i < s.size then (if r1 s i = 0 then some i else firstF s f (i + r1 s i)) else none
def first? (s : ByteArray) : Option Nat := firstF s (s.size + 1) 0
def firstV (s : ByteArray) : Int := match first? s with | some i => (i : Int) | none => -1
theorem firstV_of (s : ByteArray) (i : Nat) (h : first? s = some i) : firstV s = i := by unfold firstV; rw [h]
theorem firstV_none (s : ByteArray) (h : first? s = none) : firstV s = -1 := by unfold firstV; rw [h]
theorem firstV_lo (s : ByteArray) : -1 ≤ firstV s := by
  unfold firstV; split <;> omega
/-- is it a text of so many bytes at most? -/
def chkV (s : ByteArray) (most : Int) : Nat := if most < s.size then 2 else if 0 ≤ firstV s then 9 else 0
theorem firstF_hit (s : ByteArray) {f i : Nat} (h : i < s.size) (h0 : r1 s i = 0) : firstF s (f + 1) i = some i := by simp [firstF, h, h0]
theorem firstF_step (s : ByteArray) {f i : Nat} (h : i < s.size) (h0 : r1 s i ≠ 0) : firstF s (f + 1) i = firstF s f (i + r1 s i) := by simp [firstF, h, h0]
theorem firstF_end (s : ByteArray) {f i : Nat} (h : ¬ i < s.size) : firstF s f i = none := by cases f <;> simp [firstF, h]
end Go.Proofs.YtbjoohafgkodcaaGreat
