/- Varints, tags and numbers of fixed width as plain mathematics. No program in sight. -/
import Derived.Laws.BitsAllLaws
import Derived.IntWalk
namespace Go.Proofs.Ytcibhkiddeggmaa

/-- a number's bytes -/
def vput (n : Nat) : List UInt8 := if h : n < 128 then [UInt8.ofNat n] else UInt8.ofNat (n % 128 + 128) :: vput (n / 128)
termination_by n
decreasing_by omega
theorem vput_small (n : Nat) (h : n < 128) : vput n = [UInt8.ofNat n] := by rw [vput, dif_pos h]
theorem vput_big (n : Nat) (h : ¬ n < 128) : vput n = UInt8.ofNat (n % 128 + 128) :: vput (n / 128) := by rw [vput, dif_neg h]
theorem vput_len (k : Nat) : ∀ n, n < 128 ^ (k + 1) → (vput n).length ≤ k + 1 := by
  induction k with
  | zero => intro n h; rw [vput_small n (by simpa using h)]; simp
  | succ k ih =>
    intro n h
    by_cases h1 : n < 128
    · rw [vput_small n h1]; simp
    · rw [vput_big n h1]
      have := ih (n / 128) (by rw [Nat.div_lt_iff_lt_mul (by omega)]; rw [Nat.pow_succ] at h; omega)
      simp; omega
theorem vput_len10 (n : Nat) (h : n < 18446744073709551616) : (vput n).length ≤ 10 := by
  have h2 : (128 : Nat) ^ (9 + 1) = 1180591620717411303424 := by decide
  exact vput_len 9 n (by rw [h2]; omega)
theorem vput_pos (n : Nat) : 1 ≤ (vput n).length := by
  rw [vput]; split <;> simp

/-- the number with which bytes begin, how many it has, and what is wrong (1 range, 2 long, 4 short) -/
def vgetL (i acc : Nat) : List UInt8 → Nat × Nat × Nat
  | [] => (0, 0, 4)
  | b :: t =>
    if i = 9 ∧ 128 ≤ b.toNat then (0, 0, 2)
    else if i = 9 ∧ 2 ≤ b.toNat then (0, 0, 1)
    else if b.toNat < 128 then (acc + b.toNat * 128 ^ i, i + 1, 0)
    else vgetL (i + 1) (acc + (b.toNat - 128) * 128 ^ i) t
def vget (l : List UInt8) : Nat × Nat × Nat := vgetL 0 0 l

theorem pow128 (i : Nat) : (128 : Nat) ^ (i + 1) = 128 ^ i * 128 := Nat.pow_succ ..
theorem mul_pow_lt (a b i : Nat) (ha : a < 128 ^ i) (hb : b < 128) : a + b * 128 ^ i < 128 ^ (i + 1) := by
  rw [pow128]
  have : b * 128 ^ i ≤ 127 * 128 ^ i := Nat.mul_le_mul_right _ (by omega)
  omega
theorem pow9 : (128 : Nat) ^ 9 = 9223372036854775808 := by decide
theorem pow128_le (i : Nat) (h : i ≤ 9) : (128 : Nat) ^ i ≤ 9223372036854775808 := by
  rw [← pow9]; exact Nat.pow_le_pow_right (by decide) h
/-- while it is read: the number is below 2^64 -/
theorem vgetL_bd (l : List UInt8) : ∀ i acc, i ≤ 9 → acc < 128 ^ i → (vgetL i acc l).1 < 18446744073709551616 ∧ (vgetL i acc l).2.1 ≤ i + l.length ∧ (vgetL i acc l).2.1 ≤ 10 ∧ ((vgetL i acc l).2.2 = 0 → i + 1 ≤ (vgetL i acc l).2.1) ∧ ((vgetL i acc l).2.2 ≠ 0 → (vgetL i acc l).1 = 0 ∧ (vgetL i acc l).2.1 = 0) := by
  induction l with
  | nil => intro i acc hi ha; simp [vgetL]
  | cons b t ih =>
    intro i acc hi ha
    have hb := b.toNat_lt
    have hp := pow128_le i hi
    unfold vgetL
    by_cases h1 : i = 9 ∧ 128 ≤ b.toNat
    · simp [h1]
    rw [if_neg h1]
    by_cases h2 : i = 9 ∧ 2 ≤ b.toNat
    · simp [h2]
    rw [if_neg h2]
    by_cases h3 : b.toNat < 128
    · rw [if_pos h3]
      have : acc + b.toNat * 128 ^ i < 18446744073709551616 := by
        by_cases h9 : i = 9
        · subst h9
          rw [pow9] at *
          have : b.toNat ≤ 1 := by omega
          have : b.toNat * 9223372036854775808 ≤ 1 * 9223372036854775808 := Nat.mul_le_mul_right _ this
          omega
        · have h8 := mul_pow_lt acc b.toNat i ha h3
          have := pow128_le (i + 1) (by omega)
          omega
      refine ⟨this, by simp <;> omega, by simp <;> omega, by simp, by simp⟩
    · rw [if_neg h3]
      have hi' : i + 1 ≤ 9 := by omega
      have := ih (i + 1) (acc + (b.toNat - 128) * 128 ^ i) hi' (mul_pow_lt _ _ _ ha (by omega))
      obtain ⟨h1, h2, h3, h4, h5⟩ := this
      exact ⟨h1, by simp at h2 ⊢; omega, h3, fun h => by have := h4 h; omega, h5⟩
theorem vget_bd (l : List UInt8) : (vget l).1 < 18446744073709551616 ∧ (vget l).2.1 ≤ l.length ∧ (vget l).2.1 ≤ 10 ∧ ((vget l).2.2 = 0 → 1 ≤ (vget l).2.1) ∧ ((vget l).2.2 ≠ 0 → (vget l).1 = 0 ∧ (vget l).2.1 = 0) := by
  have := vgetL_bd l 0 0 (by omega) (by simp)
  simpa [vget] using this
theorem vgetL_err (l : List UInt8) : ∀ i acc, (vgetL i acc l).2.2 = 0 ∨ (vgetL i acc l).2.2 = 1 ∨ (vgetL i acc l).2.2 = 2 ∨ (vgetL i acc l).2.2 = 4 := by
  induction l with
  | nil => intro i acc; simp [vgetL]
  | cons b t ih =>
    intro i acc
    unfold vgetL
    split
    · simp
    split
    · simp
    split
    · simp
    · exact ih _ _
theorem vget_err (l : List UInt8) : (vget l).2.2 = 0 ∨ (vget l).2.2 = 1 ∨ (vget l).2.2 = 2 ∨ (vget l).2.2 = 4 := vgetL_err l 0 0
/-- what was put is read, whatever stands behind -/
theorem vgetL_vput (t : List UInt8) (n : Nat) : ∀ i acc, i ≤ 9 → acc + n * 128 ^ i < 18446744073709551616 → vgetL i acc (vput n ++ t) = (acc + n * 128 ^ i, i + (vput n).length, 0) := by
  induction n using Nat.strongRecOn with
  | _ n ih =>
    intro i acc hi hn
    by_cases h : n < 128
    · rw [vput_small n h]
      have e : (UInt8.ofNat n).toNat = n := by rw [UInt8.toNat_ofNat']; omega
      simp only [List.cons_append, List.nil_append, vgetL, e]
      rw [if_neg (by omega), if_neg, if_pos h]
      · simp
      · rintro ⟨rfl, h2⟩
        rw [pow9] at hn
        have : 2 * 9223372036854775808 ≤ n * 9223372036854775808 := Nat.mul_le_mul_right _ h2
        omega
    · rw [vput_big n h]
      have e : (UInt8.ofNat (n % 128 + 128)).toNat = n % 128 + 128 := by rw [UInt8.toNat_ofNat']; omega
      have h9 : i ≠ 9 := by
        rintro rfl
        rw [pow9] at hn
        have : 128 * 9223372036854775808 ≤ n * 9223372036854775808 := Nat.mul_le_mul_right _ (by omega)
        omega
      simp only [List.cons_append, vgetL, e]
      rw [if_neg (by omega), if_neg (by omega), if_neg (by omega)]
      have hs : acc + (n % 128 + 128 - 128) * 128 ^ i + n / 128 * 128 ^ (i + 1) = acc + n * 128 ^ i := by
        rw [pow128]
        have h1 : n * 128 ^ i = (n % 128 + n / 128 * 128) * 128 ^ i := by congr 1; omega
        rw [h1, Nat.add_mul, Nat.mul_assoc (n / 128) 128, Nat.mul_comm 128 (128 ^ i)]
        simp; omega
      rw [ih (n / 128) (by omega) (i + 1) _ (by omega) (by rw [hs]; exact hn), hs]
      simp; omega
theorem vget_vput (n : Nat) (t : List UInt8) (h : n < 18446744073709551616) : vget (vput n ++ t) = (n, (vput n).length, 0) := by
  have := vgetL_vput t n 0 0 (by omega) (by simpa using h)
  simpa [vget] using this

/-- is it a wire type -/
def wireB (w : Nat) : Bool := w == 0 || w == 1 || w == 2 || w == 5
/-- the tag of a field; what is wrong (1 range, 7 kind) -/
def tmake (num : Int) (wire : Nat) : Nat × Nat := if num < 1 ∨ 536870911 < num then (0, 1) else if wireB wire = false then (0, 7) else (8 * num.toNat + wire, 0)
def tsplit (n : Nat) : Nat × Nat × Nat := if n / 8 < 1 ∨ 536870911 < n / 8 then (0, 0, 1) else if wireB (n % 8) = false then (0, 0, 7) else (n / 8, n % 8, 0)
theorem tmake_lt (num : Int) (wire : Nat) (h : wire < 256) : (tmake num wire).1 < 4294967296 + 256 := by
  unfold tmake
  split
  · simp
  split
  · simp
  · simp; omega
theorem tsplit_tmake (num : Int) (wire : Nat) (h : (tmake num wire).2 = 0) : tsplit (tmake num wire).1 = (num.toNat, wire, 0) := by
  unfold tmake at h ⊢
  by_cases h1 : num < 1 ∨ 536870911 < num
  · simp [h1] at h
  rw [if_neg h1] at h ⊢
  by_cases h2 : wireB wire = false
  · simp [h2] at h
  rw [if_neg h2]
  have hw : wireB wire = true := by simpa using h2
  have hlt : wire < 8 := by
    unfold wireB at hw
    simp at hw
    omega
  have e1 : (8 * num.toNat + wire) / 8 = num.toNat := by omega
  have e2 : (8 * num.toNat + wire) % 8 = wire := by omega
  unfold tsplit
  simp only [e1, e2]
  rw [if_neg (by omega), if_neg h2]

/-- k bytes of a number, the lowest first -/
def fixB : Nat → Nat → List UInt8
  | 0, _ => []
  | k + 1, n => UInt8.ofNat (n % 256) :: fixB k (n / 256)
def unfix : List UInt8 → Nat
  | [] => 0
  | b :: t => b.toNat + 256 * unfix t
theorem fixB_length (k : Nat) : ∀ n, (fixB k n).length = k := by
  induction k with
  | zero => intro n; rfl
  | succ k ih => intro n; simp [fixB, ih]
theorem unfix_lt (l : List UInt8) : unfix l < 256 ^ l.length := by
  induction l with
  | nil => simp [unfix]
  | cons b t ih => have := b.toNat_lt; simp only [unfix, List.length_cons, Nat.pow_succ]; omega
theorem unfix_fixB (k : Nat) : ∀ n, n < 256 ^ k → unfix (fixB k n) = n := by
  induction k with
  | zero => intro n h; simp at h; simp [fixB, unfix, h]
  | succ k ih =>
    intro n h
    have e : (UInt8.ofNat (n % 256)).toNat = n % 256 := by rw [UInt8.toNat_ofNat']; omega
    simp only [fixB, unfix, e]
    rw [ih (n / 256) (by rw [Nat.div_lt_iff_lt_mul (by omega)]; rw [Nat.pow_succ] at h; omega)]
    omega
theorem unfix_snoc (l : List UInt8) (b : UInt8) : unfix (l ++ [b]) = unfix l + b.toNat * 256 ^ l.length := by
  induction l with
  | nil => simp [unfix]
  | cons c t ih => simp only [List.cons_append, unfix, ih, List.length_cons, Nat.pow_succ]; rw [Nat.mul_add, Nat.mul_comm (256 ^ t.length) 256, ← Nat.mul_assoc, ← Nat.mul_assoc, Nat.mul_comm b.toNat 256]; omega
theorem fixB_snoc (k : Nat) : ∀ n, fixB (k + 1) n = fixB k n ++ [UInt8.ofNat (n / 256 ^ k % 256)] := by
  induction k with
  | zero => intro n; simp [fixB]
  | succ k ih =>
    intro n
    rw [fixB, ih (n / 256), fixB]
    simp only [List.cons_append, List.cons.injEq, true_and]
    rw [Nat.div_div_eq_div_mul, Nat.pow_succ, Nat.mul_comm 256]

/-! ## bits -/
theorem or_add (a b i : Nat) (ha : a < 2 ^ i) : a ||| b * 2 ^ i = a + b * 2 ^ i := by
  rw [Nat.mul_comm b, Nat.or_comm, Nat.add_comm]
  exact (Nat.two_pow_add_eq_or_of_lt ha b).symm
theorem two7 (k : Nat) : (2 : Nat) ^ (7 * k) = 128 ^ k := by rw [Nat.pow_mul]
theorem two8 (k : Nat) : (2 : Nat) ^ (8 * k) = 256 ^ k := by rw [Nat.pow_mul]
open Go in
theorem seven_or (x acc k : Nat) (hx : x < 256) (ha : acc < 128 ^ k) (hk : k ≤ 9) (h9 : k = 9 → x ≤ 1) :
    bits .or .u64 (acc : Int) (IntKind.u64.wrap (IntKind.u64.wrap (bits .andNot .u8 (x : Int) 128) * 2 ^ (7 * k))) = ((acc + x % 128 * 128 ^ k : Nat) : Int) := by
  have h1 := u8_andNot_nat x 128 hx (by decide)
  rw [show (255 - 128 : Nat) = 127 from rfl, nat_mask7] at h1
  rw [show ((128 : Nat) : Int) = 128 from rfl] at h1
  rw [h1]
  have hp := pow128_le k hk
  have hlt : x % 128 * 128 ^ k < 18446744073709551616 := by
    by_cases h : k = 9
    · have := h9 h
      subst h
      rw [pow9]
      have : x % 128 * 9223372036854775808 ≤ 1 * 9223372036854775808 := Nat.mul_le_mul_right _ (by omega)
      omega
    · have := mul_pow_lt acc (x % 128) k ha (by omega)
      have := pow128_le (k + 1) (by omega)
      omega
  rw [IntWalk.u64_in ((x % 128 : Nat) : Int) (by omega)]
  have e : ((x % 128 : Nat) : Int) * 2 ^ (7 * k) = ((x % 128 * 128 ^ k : Nat) : Int) := by
    rw [← two7]; push_cast; rfl
  rw [e, IntWalk.u64_in _ (by omega), u64_or_nat _ _ (by omega) hlt]
  rw [← two7, or_add _ _ _ (by rw [two7]; exact ha)]
theorem mul_pow_lt64 (x acc k : Nat) (hx : x < 256) (ha : acc < 128 ^ k) (hk : k ≤ 9) (h9 : k = 9 → x ≤ 1) : acc + x % 128 * 128 ^ k < 18446744073709551616 := by
  have hp := pow128_le k hk
  by_cases h : k = 9
  · have := h9 h
    subst h
    rw [pow9] at *
    have : x % 128 * 9223372036854775808 ≤ 1 * 9223372036854775808 := Nat.mul_le_mul_right _ (by omega)
    omega
  · have := mul_pow_lt acc (x % 128) k ha (by omega)
    have := pow128_le (k + 1) (by omega)
    omega
open Go in
theorem wrap_mul_add (x acc p : Nat) (ha : acc < 18446744073709551616) (h : acc + x % 128 * p < 18446744073709551616) :
    IntKind.u64.wrap ((acc : Int) + IntKind.u64.wrap ((x : Int) % 128 * (p : Int))) = ((acc + x % 128 * p : Nat) : Int) := by
  have e : (x : Int) % 128 * (p : Int) = ((x % 128 * p : Nat) : Int) := by push_cast; rfl
  rw [e, IntWalk.u64_in ((x % 128 * p : Nat) : Int) (by omega), IntWalk.u64_in ((acc : Int) + ((x % 128 * p : Nat) : Int)) (by omega)]
  push_cast; rfl
open Go in
theorem eight_or (x acc k : Nat) (hx : x < 256) (ha : acc < 256 ^ k) (hk : k ≤ 7) :
    bits .or .u64 (acc : Int) (IntKind.u64.wrap ((x : Int) * 2 ^ (8 * k))) = ((acc + x * 256 ^ k : Nat) : Int) := by
  have hp : (256 : Nat) ^ k ≤ 72057594037927936 := by
    rw [show (72057594037927936 : Nat) = 256 ^ 7 by decide]; exact Nat.pow_le_pow_right (by decide) hk
  have hlt : x * 256 ^ k < 18446744073709551616 := by
    have : x * 256 ^ k ≤ 255 * 256 ^ k := Nat.mul_le_mul_right _ (by omega)
    omega
  have e : (x : Int) * 2 ^ (8 * k) = ((x * 256 ^ k : Nat) : Int) := by
    rw [← two8]; push_cast; rfl
  rw [e, IntWalk.u64_in _ (by omega), u64_or_nat _ _ (by omega) hlt]
  rw [← two8, or_add _ _ _ (by rw [two8]; exact ha)]
end Go.Proofs.Ytcibhkiddeggmaa
