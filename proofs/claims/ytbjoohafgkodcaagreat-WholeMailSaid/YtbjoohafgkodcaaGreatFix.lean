/- Package tag and rescriptref02: numbers of fixed width: contracts. ; Package tag and rescriptref02: contracts. ; Package varint and rescriptref01: contracts. ; Varints, tags and numbers of fixed width as plain mathematics. No program in sight. ; Slice expressions on byte slices. -/
import Derived.Test.YtbjoohafgkodcaaGreatPay
import Derived.Laws.BitsAllLaws
import Derived.IntWalk
import Derived.Laws.MakeOwn
namespace Go.Proofs.YtbjoohafgkodcaaGreat
open Go Go.RowKit Go.Shelf

theorem bs_sliced {w : World} {a : Option Addr} {n c : Nat} {l : List UInt8} (h : Bs w (.slice a n c) l) (i j m : Nat) (hij : i ≤ j) (hj : j ≤ l.length) (hjm : j ≤ m) (hm : m ≤ c) : Bs w (sliced a i j m 1) ((l.drop i).take (j - i)) := by
  obtain ⟨hl, a0, c0, e, h1, h2, h3, h4⟩ := h
  cases e
  have hlen : ((l.drop i).take (j - i)).length = j - i := by rw [List.length_take, List.length_drop]; omega
  refine ⟨by simp, if m = i then a else a.map (·.add (i * 1)), m - i, by rw [hlen]; rfl, by rw [hlen]; omega, by omega, ?_, ?_⟩
  · intro hn
    split at hn
    · omega
    · cases a with
      | none => have := h3 rfl; omega
      | some ad => cases hn
  · intro ad had k u hu
    have hk : k < j - i := by
      have := (List.getElem?_eq_some_iff.1 hu).1
      rw [bv_length, hlen] at this; exact this
    rw [if_neg (by omega)] at had
    cases a with
    | none => cases had
    | some a0 =>
      cases had
      have hg : (bv l)[i + k]? = some u := by
        rw [← hu]
        simp only [bv, List.getElem?_map]
        rw [List.getElem?_take_of_lt hk, List.getElem?_drop]
      have := h4 a0 rfl (i + k) u hg
      rwa [Nat.mul_one, ← Addr.add_add] at *

set_option maxRecDepth 100000 in
/-- v[i:] -/
theorem slc_from {a : Option Addr} {c : Nat} {w : World} {l : List UInt8} (h : Bs w (.slice a l.length c) l) (i : Nat) (hi : i ≤ l.length) : ∃ a' c', (∀ W : World, (Instr.slice 22 (.slice a l.length c) (some (.int .i64 i)) none none).run Tryz.prog W = .ok (.slice a' (l.length - i) c') W) ∧ ∀ W, Bs W (.slice a l.length c) l → Bs W (.slice a' (l.length - i) c') (l.drop i) := by
  obtain ⟨a0, c0, e, h1, h2, -⟩ := h.open
  cases e
  refine ⟨if c = i then a else a.map (·.add (i * 1)), c - i, fun W => ?_, fun W hW => ?_⟩
  · rw [run_slice_l W _ _ _ _ Tryz.underlying22 .i64 i (by omega) (by omega)]
    have e1 : (sizeOf (Tryz.prog.elem 22)).run Tryz.prog W = .ok 1 W := by kernel_rfl
    rw [e1]
    simp only [Result.andThen, sliced, Int.toNat_natCast]
  · have := bs_sliced hW i l.length c hi (Nat.le_refl _) h1 (Nat.le_refl _)
    rw [List.take_of_length_le (by rw [List.length_drop]; omega)] at this
    exact this
set_option maxRecDepth 100000 in
/-- v[i:j] -/
theorem slc_span {a : Option Addr} {c : Nat} {w : World} {l : List UInt8} (h : Bs w (.slice a l.length c) l) (i j : Nat) (hi : i ≤ j) (hj : j ≤ l.length) : ∃ a' c', (∀ W : World, (Instr.slice 22 (.slice a l.length c) (some (.int .i64 i)) (some (.int .i64 j)) none).run Tryz.prog W = .ok (.slice a' (j - i) c') W) ∧ ∀ W, Bs W (.slice a l.length c) l → Bs W (.slice a' (j - i) c') ((l.drop i).take (j - i)) := by
  obtain ⟨a0, c0, e, h1, h2, -⟩ := h.open
  cases e
  refine ⟨if c = i then a else a.map (·.add (i * 1)), c - i, fun W => ?_, fun W hW => ?_⟩
  · rw [run_slice_lh W _ _ _ _ Tryz.underlying22 .i64 .i64 i j (by omega) (by omega) (by omega)]
    have e1 : (sizeOf (Tryz.prog.elem 22)).run Tryz.prog W = .ok 1 W := by kernel_rfl
    rw [e1]
    simp only [Result.andThen, sliced, Int.toNat_natCast]
  · exact bs_sliced hW i j c hi hj (by omega) (Nat.le_refl _)
set_option maxRecDepth 100000 in
/-- v[i:j:m] -/
theorem slc_full {a : Option Addr} {c : Nat} {w : World} {l : List UInt8} (h : Bs w (.slice a l.length c) l) (i j m : Nat) (hi : i ≤ j) (hj : j ≤ l.length) (hjm : j ≤ m) (hm : m ≤ c) : ∃ a', (∀ W : World, (Instr.slice 22 (.slice a l.length c) (some (.int .i64 i)) (some (.int .i64 j)) (some (.int .i64 m))).run Tryz.prog W = .ok (.slice a' (j - i) (m - i)) W) ∧ ∀ W, Bs W (.slice a l.length c) l → Bs W (.slice a' (j - i) (m - i)) ((l.drop i).take (j - i)) := by
  obtain ⟨a0, c0, e, h1, h2, -⟩ := h.open
  cases e
  refine ⟨if m = i then a else a.map (·.add (i * 1)), fun W => ?_, fun W hW => ?_⟩
  · rw [run_slice_lhm W _ _ _ _ Tryz.underlying22 .i64 .i64 .i64 i j m (by omega) (by omega) (by omega) (by omega)]
    have e1 : (sizeOf (Tryz.prog.elem 22)).run Tryz.prog W = .ok 1 W := by kernel_rfl
    rw [e1]
    simp only [Result.andThen, sliced, Int.toNat_natCast]
  · exact bs_sliced hW i j m hi hj hjm hm
end Go.Proofs.YtbjoohafgkodcaaGreat
namespace Go.Proofs.YtbjoohafgkodcaaGreat

/-- a number's bytes -/
def vput (n : Nat) : List UInt8 := if h : n < 128 then [UInt8.ofNat n] else UInt8.ofNat (n % 128 + 128) :: vput (n / 128)
termination_by n
decreasing_by omega
theorem vput_small (n : Nat) (h : n < 128) : vput n = [UInt8.ofNat n] := by rw [vput, dif_pos h]
theorem vput_big (n : Nat) (h : ¬ n < 128) : vput n = UInt8.ofNat (n % 128 + 128) :: vput (n / 128) := by rw [vput, dif_neg h]
theorem vput_len (k : Nat) : ∀ n, n < 128 ^ (k + 1) → (vput n).length ≤ k + 1 := by
  induction k with
  | zero => intro n h; rw [vput_small n (by simpa using h)]; simp
  | succ k ih =>
    intro n h
    by_cases h1 : n < 128
    · rw [vput_small n h1]; simp
    · rw [vput_big n h1]
      have := ih (n / 128) (by rw [Nat.div_lt_iff_lt_mul (by omega)]; rw [Nat.pow_succ] at h; omega)
      simp; omega
theorem vput_len10 (n : Nat) (h : n < 18446744073709551616) : (vput n).length ≤ 10 := by
  have h2 : (128 : Nat) ^ (9 + 1) = 1180591620717411303424 := by decide
  exact vput_len 9 n (by rw [h2]; omega)
theorem vput_pos (n : Nat) : 1 ≤ (vput n).length := by
  rw [vput]; split <;> simp

/-- the number with which bytes begin, how many it has, and what is wrong (1 range, 2 long, 4 short) -/
def vgetL (i acc : Nat) : List UInt8 → Nat × Nat × Nat
  | [] => (0, 0, 4)
  | b :: t =>
    if i = 9 ∧ 128 ≤ b.toNat then (0, 0, 2)
    else if i = 9 ∧ 2 ≤ b.toNat then (0, 0, 1)
    else if b.toNat < 128 then (acc + b.toNat * 128 ^ i, i + 1, 0)
    else vgetL (i + 1) (acc + (b.toNat - 128) * 128 ^ i) t
def vget (l : List UInt8) : Nat × Nat × Nat := vgetL 0 0 l

theorem pow128 (i : Nat) : (128 : Nat) ^ (i + 1) = 128 ^ i * 128 := Nat.pow_succ ..
theorem mul_pow_lt (a b i : Nat) (ha : a < 128 ^ i) (hb : b < 128) : a + b * 128 ^ i < 128 ^ (i + 1) := by
  rw [pow128]
  have : b * 128 ^ i ≤ 127 * 128 ^ i := Nat.mul_le_mul_right _ (by omega)
  omega
theorem pow9 : (128 : Nat) ^ 9 = 9223372036854775808 := by decide
theorem pow128_le (i : Nat) (h : i ≤ 9) : (128 : Nat) ^ i ≤ 9223372036854775808 := by
  rw [← pow9]; exact Nat.pow_le_pow_right (by decide) h
/-- while it is read: the number is below 2^64 -/
theorem vgetL_bd (l : List UInt8) : ∀ i acc, i ≤ 9 → acc < 128 ^ i → (vgetL i acc l).1 < 18446744073709551616 ∧ (vgetL i acc l).2.1 ≤ i + l.length ∧ (vgetL i acc l).2.1 ≤ 10 ∧ ((vgetL i acc l).2.2 = 0 → i + 1 ≤ (vgetL i acc l).2.1) ∧ ((vgetL i acc l).2.2 ≠ 0 → (vgetL i acc l).1 = 0 ∧ (vgetL i acc l).2.1 = 0) := by
  induction l with
  | nil => intro i acc hi ha; simp [vgetL]
  | cons b t ih =>
    intro i acc hi ha
    have hb := b.toNat_lt
    have hp := pow128_le i hi
    unfold vgetL
    by_cases h1 : i = 9 ∧ 128 ≤ b.toNat
    · simp [h1]
    rw [if_neg h1]
    by_cases h2 : i = 9 ∧ 2 ≤ b.toNat
    · simp [h2]
    rw [if_neg h2]
    by_cases h3 : b.toNat < 128
    · rw [if_pos h3]
      have : acc + b.toNat * 128 ^ i < 18446744073709551616 := by
        by_cases h9 : i = 9
        · subst h9
          rw [pow9] at *
          have : b.toNat ≤ 1 := by omega
          have : b.toNat * 9223372036854775808 ≤ 1 * 9223372036854775808 := Nat.mul_le_mul_right _ this
          omega
        · have h8 := mul_pow_lt acc b.toNat i ha h3
          have := pow128_le (i + 1) (by omega)
          omega
      refine ⟨this, by simp <;> omega, by simp <;> omega, by simp, by simp⟩
    · rw [if_neg h3]
      have hi' : i + 1 ≤ 9 := by omega
      have := ih (i + 1) (acc + (b.toNat - 128) * 128 ^ i) hi' (mul_pow_lt _ _ _ ha (by omega))
      obtain ⟨h1, h2, h3, h4, h5⟩ := this
      exact ⟨h1, by simp at h2 ⊢; omega, h3, fun h => by have := h4 h; omega, h5⟩
theorem vget_bd (l : List UInt8) : (vget l).1 < 18446744073709551616 ∧ (vget l).2.1 ≤ l.length ∧ (vget l).2.1 ≤ 10 ∧ ((vget l).2.2 = 0 → 1 ≤ (vget l).2.1) ∧ ((vget l).2.2 ≠ 0 → (vget l).1 = 0 ∧ (vget l).2.1 = 0) := by
  have := vgetL_bd l 0 0 (by omega) (by simp)
  simpa [vget] using this
theorem vgetL_err (l : List UInt8) : ∀ i acc, (vgetL i acc l).2.2 = 0 ∨ (vgetL i acc l).2.2 = 1 ∨ (vgetL i acc l).2.2 = 2 ∨ (vgetL i acc l).2.2 = 4 := by
  induction l with
  | nil => intro i acc; simp [vgetL]
  | cons b t ih =>
    intro i acc
    unfold vgetL
    split
    · simp
    split
    · simp
    split
    · simp
    · exact ih _ _
theorem vget_err (l : List UInt8) : (vget l).2.2 = 0 ∨ (vget l).2.2 = 1 ∨ (vget l).2.2 = 2 ∨ (vget l).2.2 = 4 := vgetL_err l 0 0
/-- what was put is read, whatever stands behind -/
theorem vgetL_vput (t : List UInt8) (n : Nat) : ∀ i acc, i ≤ 9 → acc + n * 128 ^ i < 18446744073709551616 → vgetL i acc (vput n ++ t) = (acc + n * 128 ^ i, i + (vput n).length, 0) := by
  induction n using Nat.strongRecOn with
  | _ n ih =>
    intro i acc hi hn
    by_cases h : n < 128
    · rw [vput_small n h]
      have e : (UInt8.ofNat n).toNat = n := by rw [UInt8.toNat_ofNat']; omega
      simp only [List.cons_append, List.nil_append, vgetL, e]
      rw [if_neg (by omega), if_neg, if_pos h]
      · simp
      · rintro ⟨rfl, h2⟩
        rw [pow9] at hn
        have : 2 * 9223372036854775808 ≤ n * 9223372036854775808 := Nat.mul_le_mul_right _ h2
        omega
    · rw [vput_big n h]
      have e : (UInt8.ofNat (n % 128 + 128)).toNat = n % 128 + 128 := by rw [UInt8.toNat_ofNat']; omega
      have h9 : i ≠ 9 := by
        rintro rfl
        rw [pow9] at hn
        have : 128 * 9223372036854775808 ≤ n * 9223372036854775808 := Nat.mul_le_mul_right _ (by omega)
        omega
      simp only [List.cons_append, vgetL, e]
      rw [if_neg (by omega), if_neg (by omega), if_neg (by omega)]
      have hs : acc + (n % 128 + 128 - 128) * 128 ^ i + n / 128 * 128 ^ (i + 1) = acc + n * 128 ^ i := by
        rw [pow128]
        have h1 : n * 128 ^ i = (n % 128 + n / 128 * 128) * 128 ^ i := by congr 1; omega
        rw [h1, Nat.add_mul, Nat.mul_assoc (n / 128) 128, Nat.mul_comm 128 (128 ^ i)]
        simp; omega
      rw [ih (n / 128) (by omega) (i + 1) _ (by omega) (by rw [hs]; exact hn), hs]
      simp; omega
theorem vget_vput (n : Nat) (t : List UInt8) (h : n < 18446744073709551616) : vget (vput n ++ t) = (n, (vput n).length, 0) := by
  have := vgetL_vput t n 0 0 (by omega) (by simpa using h)
  simpa [vget] using this

/-- is it a wire type -/
def wireB (w : Nat) : Bool := w == 0 || w == 1 || w == 2 || w == 5
/-- the tag of a field; what is wrong (1 range, 7 kind) -/
def tmake (num : Int) (wire : Nat) : Nat × Nat := if num < 1 ∨ 536870911 < num then (0, 1) else if wireB wire = false then (0, 7) else (8 * num.toNat + wire, 0)
def tsplit (n : Nat) : Nat × Nat × Nat := if n / 8 < 1 ∨ 536870911 < n / 8 then (0, 0, 1) else if wireB (n % 8) = false then (0, 0, 7) else (n / 8, n % 8, 0)
theorem tmake_lt (num : Int) (wire : Nat) (h : wire < 256) : (tmake num wire).1 < 4294967296 + 256 := by
  unfold tmake
  split
  · simp
  split
  · simp
  · simp; omega
theorem tsplit_tmake (num : Int) (wire : Nat) (h : (tmake num wire).2 = 0) : tsplit (tmake num wire).1 = (num.toNat, wire, 0) := by
  unfold tmake at h ⊢
  by_cases h1 : num < 1 ∨ 536870911 < num
  · simp [h1] at h
  rw [if_neg h1] at h ⊢
  by_cases h2 : wireB wire = false
  · simp [h2] at h
  rw [if_neg h2]
  have hw : wireB wire = true := by simpa using h2
  have hlt : wire < 8 := by
    unfold wireB at hw
    simp at hw
    omega
  have e1 : (8 * num.toNat + wire) / 8 = num.toNat := by omega
  have e2 : (8 * num.toNat + wire) % 8 = wire := by omega
  unfold tsplit
  simp only [e1, e2]
  rw [if_neg (by omega), if_neg h2]

/-- k bytes of a number, the lowest first -/
def fixB : Nat → Nat → List UInt8
  | 0, _ => []
  | k + 1, n => UInt8.ofNat (n % 256) :: fixB k (n / 256)
def unfix : List UInt8 → Nat
  | [] => 0
  | b :: t => b.toNat + 256 * unfix t
theorem fixB_length (k : Nat) : ∀ n, (fixB k n).length = k := by
  induction k with
  | zero => intro n; rfl
  | succ k ih => intro n; simp [fixB, ih]
theorem unfix_lt (l : List UInt8) : unfix l < 256 ^ l.length := by
  induction l with
  | nil => simp [unfix]
  | cons b t ih => have := b.toNat_lt; simp only [unfix, List.length_cons, Nat.pow_succ]; omega
theorem unfix_fixB (k : Nat) : ∀ n, n < 256 ^ k → unfix (fixB k n) = n := by
  induction k with
  | zero => intro n h; simp at h; simp [fixB, unfix, h]
  | succ k ih =>
    intro n h
    have e : (UInt8.ofNat (n % 256)).toNat = n % 256 := by rw [UInt8.toNat_ofNat']; omega
    simp only [fixB, unfix, e]
    rw [ih (n / 256) (by rw [Nat.div_lt_iff_lt_mul (by omega)]; rw [Nat.pow_succ] at h; omega)]
    omega
theorem unfix_snoc (l : List UInt8) (b : UInt8) : unfix (l ++ [b]) = unfix l + b.toNat * 256 ^ l.length := by
  induction l with
  | nil => simp [unfix]
  | cons c t ih => simp only [List.cons_append, unfix, ih, List.length_cons, Nat.pow_succ]; rw [Nat.mul_add, Nat.mul_comm (256 ^ t.length) 256, ← Nat.mul_assoc, ← Nat.mul_assoc, Nat.mul_comm b.toNat 256]; omega
theorem fixB_snoc (k : Nat) : ∀ n, fixB (k + 1) n = fixB k n ++ [UInt8.ofNat (n / 256 ^ k % 256)] := by
  induction k with
  | zero => intro n; simp [fixB]
  | succ k ih =>
    intro n
    rw [fixB, ih (n / 256), fixB]
    simp only [List.cons_append, List.cons.injEq, true_and]
    rw [Nat.div_div_eq_div_mul, Nat.pow_succ, Nat.mul_comm 256]

/-! ## bits -/
theorem or_add (a b i : Nat) (ha : a < 2 ^ i) : a ||| b * 2 ^ i = a + b * 2 ^ i := by
  rw [Nat.mul_comm b, Nat.or_comm, Nat.add_comm]
  exact (Nat.two_pow_add_eq_or_of_lt ha b).symm
theorem two7 (k : Nat) : (2 : Nat) ^ (7 * k) = 128 ^ k := by rw [Nat.pow_mul]
theorem two8 (k : Nat) : (2 : Nat) ^ (8 * k) = 256 ^ k := by rw [Nat.pow_mul]
open Go in
theorem seven_or (x acc k : Nat) (hx : x < 256) (ha : acc < 128 ^ k) (hk : k ≤ 9) (h9 : k = 9 → x ≤ 1) :
    bits .or .u64 (acc : Int) (IntKind.u64.wrap (IntKind.u64.wrap (bits .andNot .u8 (x : Int) 128) * 2 ^ (7 * k))) = ((acc + x % 128 * 128 ^ k : Nat) : Int) := by
  have h1 := u8_andNot_nat x 128 hx (by decide)
  rw [show (255 - 128 : Nat) = 127 from rfl, nat_mask7] at h1
  rw [show ((128 : Nat) : Int) = 128 from rfl] at h1
  rw [h1]
  have hp := pow128_le k hk
  have hlt : x % 128 * 128 ^ k < 18446744073709551616 := by
    by_cases h : k = 9
    · have := h9 h
      subst h
      rw [pow9]
      have : x % 128 * 9223372036854775808 ≤ 1 * 9223372036854775808 := Nat.mul_le_mul_right _ (by omega)
      omega
    · have := mul_pow_lt acc (x % 128) k ha (by omega)
      have := pow128_le (k + 1) (by omega)
      omega
  rw [IntWalk.u64_in ((x % 128 : Nat) : Int) (by omega)]
  have e : ((x % 128 : Nat) : Int) * 2 ^ (7 * k) = ((x % 128 * 128 ^ k : Nat) : Int) := by
    rw [← two7]; push_cast; rfl
  rw [e, IntWalk.u64_in _ (by omega), u64_or_nat _ _ (by omega) hlt]
  rw [← two7, or_add _ _ _ (by rw [two7]; exact ha)]
theorem mul_pow_lt64 (x acc k : Nat) (hx : x < 256) (ha : acc < 128 ^ k) (hk : k ≤ 9) (h9 : k = 9 → x ≤ 1) : acc + x % 128 * 128 ^ k < 18446744073709551616 := by
  have hp := pow128_le k hk
  by_cases h : k = 9
  · have := h9 h
    subst h
    rw [pow9] at *
    have : x % 128 * 9223372036854775808 ≤ 1 * 9223372036854775808 := Nat.mul_le_mul_right _ (by omega)
    omega
  · have := mul_pow_lt acc (x % 128) k ha (by omega)
    have := pow128_le (k + 1) (by omega)
    omega
open Go in
theorem wrap_mul_add (x acc p : Nat) (ha : acc < 18446744073709551616) (h : acc + x % 128 * p < 18446744073709551616) :
    IntKind.u64.wrap ((acc : Int) + IntKind.u64.wrap ((x : Int) % 128 * (p : Int))) = ((acc + x % 128 * p : Nat) : Int) := by
  have e : (x : Int) % 128 * (p : Int) = ((x % 128 * p : Nat) : Int) := by push_cast; rfl
  rw [e, IntWalk.u64_in ((x % 128 * p : Nat) : Int) (by omega), IntWalk.u64_in ((acc : Int) + ((x % 128 * p : Nat) : Int)) (by omega)]
  push_cast; rfl
open Go in
theorem eight_or (x acc k : Nat) (hx : x < 256) (ha : acc < 256 ^ k) (hk : k ≤ 7) :
    bits .or .u64 (acc : Int) (IntKind.u64.wrap ((x : Int) * 2 ^ (8 * k))) = ((acc + x * 256 ^ k : Nat) : Int) := by
  have hp : (256 : Nat) ^ k ≤ 72057594037927936 := by
    rw [show (72057594037927936 : Nat) = 256 ^ 7 by decide]; exact Nat.pow_le_pow_right (by decide) hk
  have hlt : x * 256 ^ k < 18446744073709551616 := by
    have : x * 256 ^ k ≤ 255 * 256 ^ k := Nat.mul_le_mul_right _ (by omega)
    omega
  have e : (x : Int) * 2 ^ (8 * k) = ((x * 256 ^ k : Nat) : Int) := by
    rw [← two8]; push_cast; rfl
  rw [e, IntWalk.u64_in _ (by omega), u64_or_nat _ _ (by omega) hlt]
  rw [← two8, or_add _ _ _ (by rw [two8]; exact ha)]
end Go.Proofs.YtbjoohafgkodcaaGreat
namespace Go.Proofs.YtbjoohafgkodcaaGreat
open Go Go.RowKit Go.Shelf
attribute [local go_sem] Oper.semAt_some

def lastE (x : Nat) : Nat := if 128 ≤ x then 2 else if 2 ≤ x then 1 else 0
set_option maxRecDepth 10000 in
theorem last_any (x : Nat) (w : World) : Calls Tryz.prog 170 #[.int .u8 x] w fun e w' => e = .returned (.int .i64 (lastE x)) ∧ w = w' := by
  by_cases h1 : 128 ≤ x
  · have e : lastE x = 2 := by unfold lastE; rw [if_pos h1]
    have E := Lib.hid e
    clear e
    go_enter Tryz.func170, Tryz.ntmps170
    go_wp2
    go_ret
    exact ⟨ret_int (by rw [E.out]; rfl), rfl⟩
  by_cases h2 : 2 ≤ x
  · have e : lastE x = 1 := by unfold lastE; rw [if_neg h1, if_pos h2]
    have E := Lib.hid e
    clear e
    go_enter Tryz.func170, Tryz.ntmps170
    go_wp2
    go_ret
    exact ⟨ret_int (by rw [E.out]; rfl), rfl⟩
  · have e : lastE x = 0 := by unfold lastE; rw [if_neg h1, if_neg h2]
    have E := Lib.hid e
    clear e
    go_enter Tryz.func170, Tryz.ntmps170
    go_wp2
    go_ret
    exact ⟨ret_int (by rw [E.out]; rfl), rfl⟩

theorem vgetL_at (l : List UInt8) (k acc : Nat) (h : k < l.length) : vgetL k acc (l.drop k) = if k = 9 ∧ 128 ≤ l[k].toNat then (0, 0, 2) else if k = 9 ∧ 2 ≤ l[k].toNat then (0, 0, 1) else if l[k].toNat < 128 then (acc + l[k].toNat * 128 ^ k, k + 1, 0) else vgetL (k + 1) (acc + (l[k].toNat - 128) * 128 ^ k) (l.drop (k + 1)) := by
  rw [List.drop_eq_getElem_cons h]; rfl

theorem ret3_eq {k1 k2 k3 : IntKind} {a1 a2 a3 b1 b2 b3 : Int} (h1 : a1 = b1) (h2 : a2 = b2) (h3 : a3 = b3) : Ending.returned (.tuple #[.int k1 a1, .int k2 a2, .int k3 a3]) = .returned (.tuple #[.int k1 b1, .int k2 b2, .int k3 b3]) := by rw [h1, h2, h3]
set_option maxRecDepth 100000 in
set_option maxHeartbeats 1000000 in
theorem get_any (l : List UInt8) (v : Value) (w : World) (hb : Bs w v l) : Calls Tryz.prog 154 #[v] w fun e w' => e = .returned (.tuple #[.int .u64 (vget l).1, .int .i64 (vget l).2.1, .int .i64 (vget l).2.2]) ∧ w = w' := by
  obtain ⟨a, c, rfl, h1, h2, -, hc⟩ := hb.open
  unfold maxLen at h2
  obtain ⟨R, hR⟩ : ∃ R, vget l = R := ⟨_, rfl⟩
  rw [hR]
  have HR := Lib.hid hR
  clear hR
  go_enter Tryz.func154, Tryz.ntmps154
  go_wp2
  go_step3
  go_wp2
  go_step3
  go_wp2
  go_loop [5, 11] (fun n i => ∃ k acc : Nat, k ≤ l.length ∧ k ≤ 9 ∧ i = .int .i64 k ∧ n = .int .u64 acc ∧ acc < 128 ^ k ∧ vgetL k acc (l.drop k) = R) (fun _ i => l.length - (intOf i).toNat)
  case atStart => exact ⟨0, 0, by omega, by omega, rfl, rfl, by simp, HR.out⟩
  case round =>
    obtain ⟨k, acc, hk, hk9, rfl, rfl, hacc, hv⟩ := hrel
    by_cases hlt : k < l.length
    · obtain ⟨b, off, rfl, hcell⟩ := hc (by omega)
      rw [vgetL_at l k acc hlt] at hv
      have c1 := hcell k _ (bv_get l k hlt)
      have hx := l[k].toNat_lt
      obtain ⟨x, hxe⟩ : ∃ x, l[k].toNat = x := ⟨_, rfl⟩
      rw [hxe] at hv c1 hx
      have HX := Lib.hid hxe
      have hp := pow128_le k hk9
      obtain ⟨p, hpe⟩ : ∃ p, 128 ^ k = p := ⟨_, rfl⟩
      rw [hpe] at hacc
      clear hxe hc hcell hp
      have hs := fun h9 => seven_or x acc k hx (by rw [hpe]; exact hacc) hk9 h9
      rw [hpe] at hs
      by_cases h9 : k = 9
      · subst h9
        have h9 : 9 = 9 := rfl
        by_cases h128 : 128 ≤ x
        · have el : lastE x = 2 := by unfold lastE; rw [if_pos h128]
          rw [if_pos ⟨h9, h128⟩] at hv
          have HV := Lib.hid hv
          have EL := Lib.hid el
          clear hv hs hpe h9 el
          go_wp2_with (go_at_call 170; refine (last_any _ _).mono ?_; rintro e w' ⟨rfl, rfl⟩; rw [EL.out])
          (try rw [Exit.noGoto_ret])
          go_ret3
          rw [← HV.out]
          exact ⟨rfl, rfl⟩
        by_cases h2' : 2 ≤ x
        · have el : lastE x = 1 := by unfold lastE; rw [if_neg h128, if_pos h2']
          rw [if_neg (by omega), if_pos ⟨h9, h2'⟩] at hv
          have HV := Lib.hid hv
          have EL := Lib.hid el
          clear hv hs hpe h9 el
          go_wp2_with (go_at_call 170; refine (last_any _ _).mono ?_; rintro e w' ⟨rfl, rfl⟩; rw [EL.out])
          (try rw [Exit.noGoto_ret])
          go_ret3
          rw [← HV.out]
          exact ⟨rfl, rfl⟩
        · have el : lastE x = 0 := by unfold lastE; rw [if_neg h128, if_neg h2']
          rw [if_neg (by omega), if_neg (by omega), if_pos (by omega), hpe] at hv
          have h128' : x < 128 := by omega
          have hs9 := hs (by omega)
          rw [show (2 : Int) ^ (7 * 9) = 9223372036854775808 by decide] at hs9
          have HS := Lib.hid hs9
          have HV := Lib.hid hv
          have EL := Lib.hid el
          clear hv hs hs9 hpe h9 el
          go_wp2_with (go_at_call 170; refine (last_any _ _).mono ?_; rintro e w' ⟨rfl, rfl⟩; rw [EL.out])
          (try rw [Exit.noGoto_ret])
          go_ret3
          rw [← HV.out]
          exact ⟨ret3_eq (by rw [HS.out, Nat.mod_eq_of_lt h128']) (by simp) rfl, rfl⟩
      · have h10 : ((k : Int) == 10) = false := by simp; omega
        have h9' : ((k : Int) == 9) = false := by simp; omega
        have HS := Lib.hid (hs (by omega))
        by_cases h128 : x < 128
        · rw [if_neg (by omega), if_neg (by omega), if_pos h128, hpe] at hv
          have HV := Lib.hid hv
          clear hv hs hpe h9
          go_wp2
          (try rw [Exit.noGoto_ret])
          go_ret3
          rw [← HV.out]
          exact ⟨ret3_eq (by rw [HS.out, Nat.mod_eq_of_lt h128]) (by simp) rfl, rfl⟩
        · rw [if_neg (by omega), if_neg (by omega), if_neg h128] at hv
          have HV := Lib.hid hv
          have HP := Lib.hid hpe
          clear hv hs hpe
          go_wp2
          go_round
          case rel => exact ⟨k + 1, acc + (x - 128) * 128 ^ k, by omega, by omega, by go_num, by rw [HS.out, HP.out, show x % 128 = x - 128 by omega], mul_pow_lt _ _ _ (by rw [HP.out]; exact hacc) (by omega), HV.out⟩
          case measure => simp [intOf]; omega
    · obtain rfl : k = l.length := by omega
      rw [List.drop_length] at hv
      have HV := Lib.hid hv
      clear hv hc
      go_wp2
      (try rw [Exit.noGoto_ret])
      go_ret3
      rw [← HV.out]
      exact ⟨rfl, rfl⟩
theorem pow128_lt64 (i : Nat) (h : i ≤ 9) : (128 : Nat) ^ i < 18446744073709551616 := by have := pow128_le i h; omega
set_option maxRecDepth 100000 in
set_option maxHeartbeats 1000000 in
theorem rget_any (l : List UInt8) (v : Value) (w : World) (hb : Bs w v l) : Calls Tryz.prog 116 #[v] w fun e w' => e = .returned (.tuple #[.int .u64 (vget l).1, .int .i64 (vget l).2.1, .int .i64 (vget l).2.2]) ∧ w = w' := by
  obtain ⟨a, c, rfl, h1, h2, -, hc⟩ := hb.open
  unfold maxLen at h2
  obtain ⟨R, hR⟩ : ∃ R, vget l = R := ⟨_, rfl⟩
  rw [hR]
  have HR := Lib.hid hR
  clear hR
  go_enter Tryz.func116, Tryz.ntmps116
  go_wp2
  go_loop [5, 6, 7] (fun n m i => ∃ k acc : Nat, k ≤ l.length ∧ k ≤ 9 ∧ i = .int .i64 k ∧ n = .int .u64 acc ∧ m = .int .u64 (128 ^ k : Nat) ∧ acc < 128 ^ k ∧ vgetL k acc (l.drop k) = R) (fun _ _ i => 20 - (intOf i).toNat)
  case atStart => exact ⟨0, 0, by omega, by omega, rfl, rfl, rfl, by simp, HR.out⟩
  case round =>
    obtain ⟨k, acc, hk, hk9, rfl, rfl, rfl, hacc, hv⟩ := hrel
    by_cases hlt : k < l.length
    · obtain ⟨b, off, rfl, hcell⟩ := hc (by omega)
      rw [vgetL_at l k acc hlt] at hv
      have c1 := hcell k _ (bv_get l k hlt)
      have hx := l[k].toNat_lt
      have hne : ((k : Int) == (l.length : Int)) = false := by simp; omega
      obtain ⟨x, hxe⟩ : ∃ x, l[k].toNat = x := ⟨_, rfl⟩
      rw [hxe] at hv c1 hx
      have HX := Lib.hid hxe
      have hp := pow128_le k hk9
      have hml := fun h9 => mul_pow_lt64 x acc k hx hacc hk9 h9
      obtain ⟨p, hpe⟩ : ∃ p, 128 ^ k = p := ⟨_, rfl⟩
      rw [hpe] at hacc hp hml
      rw [hpe]
      clear hxe hc hcell
      by_cases h9 : k = 9
      · subst h9
        have h9 : 9 = 9 := rfl
        by_cases h128 : 128 ≤ x
        · rw [if_pos ⟨h9, h128⟩] at hv
          have HV := Lib.hid hv
          clear hv hml hpe h9 hne
          go_wp2
          (try rw [Exit.noGoto_ret])
          go_ret3
          rw [← HV.out]
          exact ⟨rfl, rfl⟩
        by_cases h2' : 2 ≤ x
        · rw [if_neg (by omega), if_pos ⟨h9, h2'⟩] at hv
          have HV := Lib.hid hv
          clear hv hml hpe h9 hne
          go_wp2
          (try rw [Exit.noGoto_ret])
          go_ret3
          rw [← HV.out]
          exact ⟨rfl, rfl⟩
        · rw [if_neg (by omega), if_neg (by omega), if_pos (by omega), hpe] at hv
          have h128' : x < 128 := by omega
          have HS := Lib.hid (wrap_mul_add x acc p (by omega) (hml (by omega)))
          have HV := Lib.hid hv
          clear hv hml hpe h9 hne
          go_wp2
          (try rw [Exit.noGoto_ret])
          go_ret3
          rw [← HV.out]
          exact ⟨ret3_eq (by rw [HS.out, Nat.mod_eq_of_lt h128']) (by simp) rfl, rfl⟩
      · have h9' : ((k : Int) == 9) = false := by simp; omega
        have HS := Lib.hid (wrap_mul_add x acc p (by omega) (hml (by omega)))
        by_cases h128 : x < 128
        · rw [if_neg (by omega), if_neg (by omega), if_pos h128, hpe] at hv
          have HV := Lib.hid hv
          clear hv hml hpe h9
          go_wp2
          (try rw [Exit.noGoto_ret])
          go_ret3
          rw [← HV.out]
          exact ⟨ret3_eq (by rw [HS.out, Nat.mod_eq_of_lt h128]) (by simp) rfl, rfl⟩
        · rw [if_neg (by omega), if_neg (by omega), if_neg h128] at hv
          have hp2 : p * 128 ≤ 9223372036854775808 := by have := pow128_le (k + 1) (by omega); rw [pow128, hpe] at this; exact this
          have HV := Lib.hid hv
          have HP := Lib.hid hpe
          clear hv hml hpe
          go_wp2
          go_round
          case rel => exact ⟨k + 1, acc + (x - 128) * 128 ^ k, by omega, by omega, by go_num, by rw [HS.out, HP.out, show x % 128 = x - 128 by omega], by rw [pow128, HP.out]; go_num, mul_pow_lt _ _ _ (by rw [HP.out]; exact hacc) (by omega), HV.out⟩
          case measure => simp [intOf]; omega
    · obtain rfl : k = l.length := by omega
      rw [List.drop_length] at hv
      have HV := Lib.hid hv
      obtain ⟨p, hpe⟩ : ∃ p, 128 ^ l.length = p := ⟨_, rfl⟩
      rw [hpe]
      clear hv hc hpe
      go_wp2
      (try rw [Exit.noGoto_ret])
      go_ret3
      rw [← HV.out]
      exact ⟨rfl, rfl⟩

/-- one byte in a block of its own -/
theorem bs_byte (w : World) (x : Int) (b : UInt8) (h : (b.toNat : Int) = x) : Bs (w.alloc (.cells #[.int .u8 x] 5)) (.slice (some ⟨w.heap.size, 0, none⟩) 1 1) [b] := by
  subst h
  exact Sl.one _ _ _ rfl
theorem ofNat_byte (n : Nat) (h : n < 256) : ((UInt8.ofNat n).toNat : Int) = (n : Int) := by rw [UInt8.toNat_ofNat']; omega

set_option maxRecDepth 100000 in
set_option maxHeartbeats 1000000 in
theorem rput_any (n : Nat) (hn : n < 18446744073709551616) (w : World) : Calls Tryz.prog 86 #[.int .u64 n] w fun e w' => ∃ v, e = .returned v ∧ OwnB w' w.heap.size v (vput n) ∧ Grew w w' := by
  have hlen := vput_len10 n hn
  obtain ⟨R, hR⟩ : ∃ R, vput n = R := ⟨_, rfl⟩
  rw [hR] at hlen ⊢
  have HR := Lib.hid hR
  clear hR
  go_enter Tryz.func86, Tryz.ntmps86
  go_wp2
  go_loopw [0, 3] (fun i v wr => ∃ (m : Nat) (pre : List UInt8), i = .int .u64 m ∧ m < 18446744073709551616 ∧ pre.length ≤ 10 ∧ R = pre ++ vput m ∧ OwnB wr w.heap.size v pre ∧ Grew w wr) (fun i _ _ => (intOf i).toNat)
  case atStart => exact ⟨n, [], rfl, hn, by simp, HR.out.symm, ownB_nil _ _, Below.refl _ _⟩
  case round =>
    obtain ⟨m, pre, rfl, hm, hpl, hv, hown, hB⟩ := hrel
    by_cases hlt : m < 128
    · rw [vput_small m hlt] at hv
      have HV := Lib.hid hv
      clear hv
      go_wp2_with (at_builtin; refine wpList_push rfl _ _ rfl w.heap.size _ _ rfl (own_grew hown (grew_alloc _ _)) _ rfl [UInt8.ofNat m] (bs_byte _ _ _ (ofNat_byte m (by omega))) (by simp; omega) (by have := hB.size; simp; omega) ?_; intro v' w1 hown1 hB1 _)
      go_ret
      rw [HV.out]
      exact ⟨_, rfl, hown1, (hB.alloc hB.size _).trans hB1⟩
    · rw [vput_big m hlt] at hv
      have hl : pre.length + 1 ≤ 10 := by
        have := congrArg List.length hv
        have := vput_pos (m / 128)
        simp at this ⊢; simp at *; omega
      have HV := Lib.hid hv
      clear hv
      have hb1 : (0 : Int) ≤ (m : Int) % 128 ∧ (m : Int) % 128 < 128 := by omega
      go_wp2_with (at_builtin; refine wpList_push rfl _ _ rfl w.heap.size _ _ rfl (own_grew hown (grew_alloc _ _)) _ rfl [UInt8.ofNat (m % 128 + 128)] (bs_byte _ _ _ (by rw [ofNat_byte _ (by omega)]; push_cast; rfl)) (by simp; omega) (by have := hB.size; simp; omega) ?_; intro v' w1 hown1 hB1 _)
      go_roundw
      case rel => exact ⟨m / 128, pre ++ [UInt8.ofNat (m % 128 + 128)], by go_num, by omega, by simp; omega, by rw [HV.out]; simp, hown1, (hB.alloc hB.size _).trans hB1⟩
      case measure => simp [intOf]; omega

/-! ## the iterator over groups of seven bits -/
def sevL (n : Nat) : List (Nat × Bool) := if h : n < 128 then [(n, false)] else (n % 128, true) :: sevL (n / 128)
termination_by n
decreasing_by omega
theorem sevL_small (n : Nat) (h : n < 128) : sevL n = [(n, false)] := by rw [sevL, dif_pos h]
theorem sevL_big (n : Nat) (h : ¬ n < 128) : sevL n = (n % 128, true) :: sevL (n / 128) := by rw [sevL, dif_neg h]
def sevB (p : Nat × Bool) : UInt8 := UInt8.ofNat (if p.2 then p.1 + 128 else p.1)
theorem sevL_vput (n : Nat) : (sevL n).map sevB = vput n := by
  induction n using Nat.strongRecOn with
  | _ n ih =>
    by_cases h : n < 128
    · rw [sevL_small n h, vput_small n h]; rfl
    · rw [sevL_big n h, vput_big n h, List.map_cons, ih _ (by omega)]; rfl
def encSev (p : Nat × Bool) : Array Value := #[.int .u8 p.1, .bool p.2]
/-- the iterator turns its own number alone -/
def StB (Bn : Nat) (A B : World) : Prop := ∃ v, B = A.setCell ⟨Bn, 0, none⟩ v
def cellNat (w : World) (Bn : Nat) : Nat := match w.cell? ⟨Bn, 0, none⟩ with | some v => (intOf v).toNat | none => 0

theorem sevens_any (n : Nat) (w : World) : Calls Tryz.prog 174 #[.int .u64 n] w fun e w' => e = .returned (.func (.func 176) #[] #[.pointer (some ⟨w.heap.size, 0, none⟩)]) ∧ w' = w.alloc (.cells #[.int .u64 n] 24) := by
  go_enter Tryz.func174, Tryz.ntmps174
  go_wp2
  go_ret
  exact ⟨rfl, rfl⟩

set_option maxRecDepth 100000 in
set_option maxHeartbeats 2000000 in
theorem sevens_iter (n Bn : Nat) (hn : n < 18446744073709551616) (w : World) (hc : Blk w Bn 24 #[.int .u64 n]) :
    IterAll Tryz.prog 176 #[.pointer (some ⟨Bn, 0, none⟩)] encSev (StB Bn) (KeepB Bn 24) (fun pre x => ∃ t, pre ++ x :: t = sevL n) (fun xs => xs = sevL n) w := by
  intro lp J W hW hJ hY h0
  have hcW := hc.grew hW
  refine callsIn_of_wp Tryz.func176 rfl trivial ?_ rfl
  simp only [Tryz.ntmps176, List.size_toArray, List.length_cons, List.length_nil, Nat.reduceAdd, Nat.reduceSub, Array.replicate_succ, Array.replicate_zero, List.push_toArray, List.append_toArray, List.nil_append, List.cons_append]
  gi_wp2
  gi_loopw [3] (fun _ wr => ∃ (m : Nat) (pre : List (Nat × Bool)), m < 18446744073709551616 ∧ sevL n = pre ++ sevL m ∧ J pre wr ∧ Blk wr Bn 24 #[.int .u64 m]) (fun _ wr => cellNat wr Bn)
  case atStart => exact ⟨n, [], hn, rfl, h0, hcW⟩
  case round =>
    obtain ⟨m, pre, hm, hv, hJ1, hb⟩ := hrel
    have hc1 := hb.cell 0
    have hf1 := hb.frozen 0
    simp only [List.getElem?_toArray, List.getElem?_cons_zero] at hc1
    clear hcW hc h0 hW
    by_cases hlt : m < 128
    · rw [sevL_small m hlt] at hv
      obtain ⟨fn, tmps, assign, body, hy, hR⟩ := hY pre (m, false) wr hJ1 ⟨[], hv.symm⟩
      simp only [encSev] at hy
      have HV := Lib.hid hv
      clear hv hJ hY hJ1
      have hmod : (m : Int) % 128 = m := by omega
      have hd : decide (128 ≤ (m : Int)) = false := by simp; omega
      gi_wp2
      refine hR.mono ?_
      rintro e W3 ⟨rfl, hJ3, hk3⟩
      have hb3 := hk3 _ hb
      have hc3 := hb3.cell 0
      simp only [List.getElem?_toArray, List.getElem?_cons_zero] at hc3
      clear hy hR hk3 hc1 hf1 hb
      gi_wp2
      go_end0
      exact ⟨⟨_, rfl⟩, _, HV.out.symm, hJ3⟩
    · rw [sevL_big m hlt] at hv
      obtain ⟨fn, tmps, assign, body, hy, hR⟩ := hY pre (m % 128, true) wr hJ1 ⟨_, hv.symm⟩
      simp only [encSev] at hy
      push_cast at hy
      have HV := Lib.hid hv
      have HJ := Lib.hid hJ
      clear hv hJ hY hJ1
      have hb1 : (0 : Int) ≤ (m : Int) % 128 ∧ (m : Int) % 128 < 128 := by omega
      have hd : decide (128 ≤ (m : Int)) = true := by simp; omega
      gi_wp2
      refine hR.mono ?_
      rintro e W3 ⟨rfl, hJ3, hk3⟩
      have hb3 := hk3 _ hb
      have hc3 := hb3.cell 0
      have hf3 := hb3.frozen 0
      simp only [List.getElem?_toArray, List.getElem?_cons_zero] at hc3
      clear hy hR hk3
      gi_wp2
      go_roundw
      case rel => exact ⟨m / 128, pre ++ [(m % 128, true)], by omega, by rw [HV.out]; simp, HJ.out _ _ _ hJ3 ⟨_, rfl⟩, by have h := hb3.set 0 (.int .u64 ((m : Int) / 128)); push_cast; exact h⟩
      case measure =>
        have h := (hb3.set 0 (.int .u64 ((m : Int) / 128))).cell 0
        have h' : (W3.setCell ⟨Bn, 0, none⟩ (.int .u64 ((m : Int) / 128))).cell? ⟨Bn, 0, none⟩ = some (.int .u64 ((m : Int) / 128)) := h
        unfold cellNat
        rw [h', hc1]
        simp only [intOf]
        omega

theorem or128 (b : Nat) (h : b < 128) : bits .or .u8 (b : Int) 128 = (b : Int) + 128 := by
  have h1 := u8_or_nat b 128 (by omega) (by decide)
  rw [show ((128 : Nat) : Int) = 128 from rfl] at h1
  have h2 := or_add b 1 7 h
  simp only [Nat.one_mul, Nat.reducePow] at h2
  rw [h1, h2]
  omega
/-- while Put goes -/
def PutI (w : World) (pre : List (Nat × Bool)) (W : World) : Prop := ∃ v u, Blk W w.heap.size 22 #[v] ∧ Blk W (w.heap.size + 1) 24 #[u] ∧ OwnB W w.heap.size v (pre.map sevB) ∧ Grew w W
theorem PutI.ck {w : World} {pre : List (Nat × Bool)} {n : Nat} {A B : World} (h : PutI w pre A) (e : CK n A B) (hn : w.heap.size ≤ n) : PutI w pre B := by
  obtain ⟨v, u, h1, h2, h3, h4⟩ := h
  exact ⟨v, u, e.blk h1, e.blk h2, e.own h3, e.below h4 hn⟩
theorem PutI.st {w : World} {pre : List (Nat × Bool)} {A B : World} (h : PutI w pre A) (e : StB (w.heap.size + 1) A B) : PutI w pre B := by
  obtain ⟨v, u, h1, h2, h3, h4⟩ := h
  obtain ⟨x, rfl⟩ := e
  exact ⟨v, x, h1.other _ _ (by simp), h2.set 0 x, own_set h3 _ _ (fun e' => blk_ne_row h2 h3 (by decide) e'.symm), grew_set h4 (by omega) _⟩
theorem sevL_bd (n : Nat) : ∀ p ∈ sevL n, p.1 < 128 := by
  induction n using Nat.strongRecOn with
  | _ n ih =>
    intro p hp
    by_cases h : n < 128
    · rw [sevL_small n h] at hp; simp at hp; subst hp; exact h
    · rw [sevL_big n h] at hp
      rcases List.mem_cons.1 hp with rfl | hp
      · show n % 128 < 128; omega
      · exact ih _ (by omega) p hp
set_option maxRecDepth 100000 in
set_option maxHeartbeats 2000000 in
theorem put_any (n : Nat) (hn : n < 18446744073709551616) (w : World) : Calls Tryz.prog 164 #[.int .u64 n] w fun e w' => ∃ v, e = .returned v ∧ OwnB w' w.heap.size v (vput n) ∧ Grew w w' := by
  refine (callsIn_wide (n := 0)).1 (callsIn_of_wp_marks Tryz.func164 rfl trivial ?_ rfl)
  simp only [Tryz.ntmps164, List.size_toArray, List.length_cons, List.length_nil, Nat.reduceAdd, Nat.reduceSub, Array.replicate_succ, Array.replicate_zero, List.push_toArray, List.append_toArray, List.nil_append, List.cons_append]
  gi_wp2_with (gi_at_call 174; refine (callsIn_wide.2 (sevens_any _ _)).mono ?_; rintro e w1 ⟨rfl, rfl⟩)
  have hlen := vput_len10 n hn
  rw [← sevL_vput, List.length_map] at hlen
  refine wpIn_all (gf := 176) (lb := #[.pointer (some ⟨w.heap.size + 1, 0, none⟩)]) rfl (enters_of Tryz.func176 (by kernel_rfl) rfl)
    (sevens_iter n (w.heap.size + 1) hn _ (Blk.at (by simp))) (fun A B ⟨v, e⟩ => e ▸ KeepsOthers.setCell _ _ _) (fun A B C D h1 h2 h3 cs hc => h3.blk (h2 _ (h1.blk hc))) (fun _ => rfl)
    (PutI w) (fun pre A B h e => h.st e) (fun pre A B h hc => h.ck hc (by simp; omega))
    ⟨_, _, (Blk.new _ _ _).alloc _, Blk.at (by simp), ownB_nil _ _, ((Below.refl _ _).alloc (Nat.le_refl _) _).alloc (by simp) _⟩ ?round ?done
  case round =>
    rintro lp pre ⟨x, g⟩ W hi ⟨t, hok⟩
    have hpl : pre.length + 1 ≤ 10 := by
      have := congrArg List.length hok
      simp at this; omega
    have hx : x < 128 := sevL_bd n (x, g) (by rw [← hok]; simp)
    simp only [encSev]
    gi_wp2
    refine ⟨trivial, ?_⟩
    rintro W2 hck hsz ⟨v, u, h1, h2, h3, h4⟩
    have HOK := Lib.hid hok
    clear hi hok hck hsz
    have c1 := h1.cell 0
    simp only [List.getElem?_toArray, List.getElem?_cons_zero] at c1
    have hne1 : some w.heap.size ≠ v.ownBlock := blk_ne_row h1 h3 (by decide)
    have hne2 : some (w.heap.size + 1) ≠ v.ownBlock := blk_ne_row h2 h3 (by decide)
    have ho := or128 x hx
    have HO := Lib.hid hne1
    have hl : (pre.map sevB).length ≤ 10 := by simp; omega
    cases g with
    | true =>
      gi_wp2_with (gi_at_builtin; refine wpListIn_push rfl _ _ rfl w.heap.size v _ rfl (own_grew h3 (grew_alloc _ _)) _ rfl [sevB (x, true)] (bs_byte _ _ _ (by rw [sevB, ofNat_byte _ (by simp; omega)]; push_cast; rfl)) (by simp only [List.length_cons, List.length_nil]; omega) (by have := h4.size; simp; omega) ?_; intro v' w1 hown1 hB1 hgb; obtain ⟨a', c', rfl, -⟩ := (Sl.of_own hown1).open; have hb1 := (h1.alloc _).kept hgb hne1; have f1' := hb1.frozen 0; have c1' := hb1.cell 0; simp only [List.getElem?_toArray, List.getElem?_cons_zero] at c1')
      refine ⟨((KeepsOthers.alloc _ _).trans (keepsOthers_app (own_grew h3 (grew_alloc _ _)) hgb)).trans (KeepsOthers.setCell _ _ _), ?_, _, u, hb1.set 0 _, ((h2.alloc _).kept hgb hne2).other _ _ (by simp), ?_, ?_⟩
      · intro cs hc
        exact ((hc.alloc _).kept hgb (blk_ne_row hc h3 (by decide))).other _ _ (by simp)
      · have := own_set hown1 ⟨w.heap.size, 0, none⟩ (.slice a' (pre.map sevB ++ [sevB (x, true)]).length c') (fun e' => blk_ne_row hb1 hown1 (by decide) e'.symm)
        rw [List.map_append]
        simp only [OwnB, List.map_cons, List.map_nil, List.length_map, List.length_append, List.length_cons, List.length_nil, Nat.zero_add] at this ⊢
        exact this
      · exact grew_set (((h4.alloc h4.size _).trans (hB1.mono (by simp)))) (by omega) _
    | false =>
      gi_wp2_with (gi_at_builtin; refine wpListIn_push rfl _ _ rfl w.heap.size v _ rfl (own_grew h3 (grew_alloc _ _)) _ rfl [sevB (x, false)] (bs_byte _ _ _ (by rw [sevB, ofNat_byte _ (by simp; omega)]; rfl)) (by simp only [List.length_cons, List.length_nil]; omega) (by have := h4.size; simp; omega) ?_; intro v' w1 hown1 hB1 hgb; obtain ⟨a', c', rfl, -⟩ := (Sl.of_own hown1).open; have hb1 := (h1.alloc _).kept hgb hne1; have f1' := hb1.frozen 0; have c1' := hb1.cell 0; simp only [List.getElem?_toArray, List.getElem?_cons_zero] at c1')
      refine ⟨((KeepsOthers.alloc _ _).trans (keepsOthers_app (own_grew h3 (grew_alloc _ _)) hgb)).trans (KeepsOthers.setCell _ _ _), ?_, _, u, hb1.set 0 _, ((h2.alloc _).kept hgb hne2).other _ _ (by simp), ?_, ?_⟩
      · intro cs hc
        exact ((hc.alloc _).kept hgb (blk_ne_row hc h3 (by decide))).other _ _ (by simp)
      · have := own_set hown1 ⟨w.heap.size, 0, none⟩ (.slice a' (pre.map sevB ++ [sevB (x, false)]).length c') (fun e' => blk_ne_row hb1 hown1 (by decide) e'.symm)
        rw [List.map_append]
        simp only [OwnB, List.map_cons, List.map_nil, List.length_map, List.length_append, List.length_cons, List.length_nil, Nat.zero_add] at this ⊢
        exact this
      · exact grew_set (((h4.alloc h4.size _).trans (hB1.mono (by simp)))) (by omega) _
  case done =>
    rintro xs W rfl ⟨v, u, h1, h2, h3, h4⟩ hD
    have c1 := h1.cell 0
    simp only [List.getElem?_toArray, List.getElem?_cons_zero] at c1
    rw [sevL_vput] at h3
    obtain ⟨a, c, rfl, -⟩ := (Sl.of_own h3).open
    gi_wp2
    refine ⟨by simp, .inl ⟨_, _, rfl, run_takeDeferred hD, ?_⟩⟩
    have hck := CK.putObj _ W _ _ (.deferred none) hD rfl (Nat.le_refl _)
    refine ⟨_, results_tmp rfl _ _ _, _, rfl, ?_, Below.trans h4 (hck.toBelow (by simp; omega))⟩
    exact hck.own h3
end Go.Proofs.YtbjoohafgkodcaaGreat
namespace Go.Proofs.YtbjoohafgkodcaaGreat
open Go Go.RowKit Go.Shelf
attribute [local go_sem] Oper.semAt_some

def fitsB (n : Nat) : Bool := decide (1 ≤ n) && decide (n ≤ 536870911)
def widthN (w : Nat) : Nat := if w = 1 then 8 else if w = 5 then 4 else 0
set_option maxRecDepth 10000 in
theorem fits_any (n : Nat) (w : World) : Calls Tryz.prog 171 #[.int .u64 n] w fun e w' => e = .returned (.bool (fitsB n)) ∧ w = w' := by
  by_cases h1 : 1 ≤ n
  · by_cases h2 : n ≤ 536870911
    · have e : fitsB n = true := by simp [fitsB, h1, h2]
      have E := Lib.hid e
      clear e
      go_enter Tryz.func171, Tryz.ntmps171
      go_wp2
      go_ret
      exact ⟨ret_bool (by rw [E.out, decide_eq_true_eq]; omega), rfl⟩
    · have e : fitsB n = false := by simp [fitsB, h2]
      have E := Lib.hid e
      clear e
      go_enter Tryz.func171, Tryz.ntmps171
      go_wp2
      go_ret
      exact ⟨ret_bool (by rw [E.out, decide_eq_false_iff_not]; omega), rfl⟩
  · obtain rfl : n = 0 := by omega
    go_enter Tryz.func171, Tryz.ntmps171
    go_wp2
    go_ret
    exact ⟨rfl, rfl⟩
set_option maxRecDepth 10000 in
theorem width_any (x : Nat) (w : World) : Calls Tryz.prog 158 #[.int .u8 x] w fun e w' => e = .returned (.tuple #[.int .i64 (widthN x), .bool (wireB x)]) ∧ w = w' := by
  by_cases h1 : x = 1
  · subst h1
    go_enter Tryz.func158, Tryz.ntmps158
    go_wp2
    (try rw [Exit.noGoto_ret])
    go_ret2
    exact ⟨rfl, rfl⟩
  by_cases h2 : x = 5
  · subst h2
    go_enter Tryz.func158, Tryz.ntmps158
    go_wp2
    (try rw [Exit.noGoto_ret])
    go_ret2
    exact ⟨rfl, rfl⟩
  by_cases h3 : x = 0
  · subst h3
    go_enter Tryz.func158, Tryz.ntmps158
    go_wp2
    (try rw [Exit.noGoto_ret])
    go_ret2
    exact ⟨rfl, rfl⟩
  by_cases h4 : x = 2
  · subst h4
    go_enter Tryz.func158, Tryz.ntmps158
    go_wp2
    (try rw [Exit.noGoto_ret])
    go_ret2
    exact ⟨rfl, rfl⟩
  · have e1 : widthN x = 0 := by simp [widthN, h1, h2]
    have e2 : wireB x = false := by simp [wireB, h1, h2, h3, h4]
    rw [e1, e2]
    have a1 : ((x : Int) == 1) = false := by simp; omega
    have a2 : ((x : Int) == 5) = false := by simp; omega
    have a3 : ((x : Int) == 0) = false := by simp; omega
    have a4 : ((x : Int) == 2) = false := by simp; omega
    clear e1 e2 h1 h2 h3 h4
    go_enter Tryz.func158, Tryz.ntmps158
    go_wp2
    (try rw [Exit.noGoto_ret])
    go_ret2
    exact ⟨rfl, rfl⟩
theorem ret2_eq {k1 k2 : IntKind} {a1 a2 b1 b2 : Int} (h1 : a1 = b1) (h2 : a2 = b2) : Ending.returned (.tuple #[.int k1 a1, .int k2 a2]) = .returned (.tuple #[.int k1 b1, .int k2 b2]) := by rw [h1, h2]
set_option maxRecDepth 10000 in
set_option maxHeartbeats 1000000 in
theorem make_any (num : Int) (wire : Nat) (h1 : -9223372036854775808 ≤ num) (h2 : num ≤ 9223372036854775807) (hw : wire < 256) (w : World) :
    Calls Tryz.prog 162 #[.int .i64 num, .int .u8 wire] w fun e w' => e = .returned (.tuple #[.int .u64 (tmake num wire).1, .int .i64 (tmake num wire).2]) ∧ w = w' := by
  obtain ⟨R, hR⟩ : ∃ R, tmake num wire = R := ⟨_, rfl⟩
  rw [hR]
  unfold tmake at hR
  by_cases hn : num < 0
  · rw [if_pos (by omega)] at hR
    subst hR
    go_enter Tryz.func162, Tryz.ntmps162
    go_wp2
    go_ret2
    exact ⟨rfl, rfl⟩
  obtain ⟨n, rfl⟩ := Int.eq_ofNat_of_zero_le (by omega : 0 ≤ num)
  have hd : decide ((n : Int) < 0) = false := by simp
  by_cases hf : fitsB n = true
  · have hb : 1 ≤ n ∧ n ≤ 536870911 := by simpa [fitsB] using hf
    rw [if_neg (by omega)] at hR
    cases hwb : wireB wire with
    | true =>
      rw [if_neg (by simp [hwb])] at hR
      have HR := Lib.hid hR
      have hor : bits .or .u64 ((n : Int) * 8) (wire : Int) = ((8 * n + wire : Nat) : Int) := by
        have hlt : wire < 2 ^ 3 := by
          unfold wireB at hwb
          simp at hwb
          omega
        have h1 := or_add wire n 3 hlt
        have h2 := u64_or_nat (n * 8) wire (by omega) (by omega)
        push_cast at h2
        rw [Nat.or_comm] at h1
        simp only [Nat.reducePow] at h1
        rw [h2, h1]
        omega
      have HO := Lib.hid hor
      have HW := Lib.hid hwb
      clear hor hwb hR
      go_enter Tryz.func162, Tryz.ntmps162
      go_wp2_with (first | (go_at_call 171; refine (fits_any _ _).mono ?_; rintro e w' ⟨rfl, rfl⟩; rw [hf]) | (go_at_call 158; refine (width_any _ _).mono ?_; rintro e w' ⟨rfl, rfl⟩; rw [HW.out]))
      go_ret2
      rw [← HR.out]
      exact ⟨ret2_eq (by rw [HO.out]; simp) rfl, rfl⟩
    | false =>
      rw [if_pos hwb] at hR
      subst hR
      have HW := Lib.hid hwb
      clear hwb
      go_enter Tryz.func162, Tryz.ntmps162
      go_wp2_with (first | (go_at_call 171; refine (fits_any _ _).mono ?_; rintro e w' ⟨rfl, rfl⟩; rw [hf]) | (go_at_call 158; refine (width_any _ _).mono ?_; rintro e w' ⟨rfl, rfl⟩; rw [HW.out]))
      go_ret2
      exact ⟨rfl, rfl⟩
  · have hb : ¬ (1 ≤ n ∧ n ≤ 536870911) := by simpa [fitsB] using hf
    rw [if_pos (by omega)] at hR
    subst hR
    have hf' : fitsB n = false := by simpa using hf
    clear hf
    go_enter Tryz.func162, Tryz.ntmps162
    go_wp2_with (first | (go_at_call 171; refine (fits_any _ _).mono ?_; rintro e w' ⟨rfl, rfl⟩; rw [hf']))
    go_ret2
    exact ⟨rfl, rfl⟩
set_option maxRecDepth 10000 in
set_option maxHeartbeats 1000000 in
theorem split_any (n : Nat) (hn : n < 18446744073709551616) (w : World) :
    Calls Tryz.prog 156 #[.int .u64 n] w fun e w' => e = .returned (.tuple #[.int .i64 (tsplit n).1, .int .u8 (tsplit n).2.1, .int .i64 (tsplit n).2.2]) ∧ w = w' := by
  obtain ⟨R, hR⟩ : ∃ R, tsplit n = R := ⟨_, rfl⟩
  rw [hR]
  unfold tsplit at hR
  have hm : (0 : Int) ≤ (n : Int) % 8 ∧ (n : Int) % 8 < 8 := by omega
  have hq : (0 : Int) ≤ (n : Int) / 8 ∧ (n : Int) / 8 ≤ 2305843009213693951 := by omega
  have c1 : ((n : Int) / 8) = ((n / 8 : Nat) : Int) := by omega
  have c2 : ((n : Int) % 8) = ((n % 8 : Nat) : Int) := by omega
  have HC1 := Lib.hid c1
  have HC2 := Lib.hid c2
  clear c1 c2
  have kf := fun w => fits_any (n / 8) w
  have kw := fun w => width_any (n % 8) w
  simp only [← HC1.out, ← HC2.out] at kf kw
  have KF := Lib.hid kf
  have KW := Lib.hid kw
  clear kf kw
  by_cases hf : fitsB (n / 8) = true
  · have hb : 1 ≤ n / 8 ∧ n / 8 ≤ 536870911 := by simpa [fitsB] using hf
    have hq2 : (n : Int) / 8 ≤ 536870911 := by omega
    rw [if_neg (by omega)] at hR
    cases hwb : wireB (n % 8) with
    | true =>
      rw [if_neg (by simp [hwb])] at hR
      have HR := Lib.hid hR
      have HW := Lib.hid hwb
      have HF := Lib.hid hf
      clear hwb hR hf hb
      go_enter Tryz.func156, Tryz.ntmps156
      go_wp2_with (first | (go_at_call 171; refine (KF.out _).mono ?_; rintro e w' ⟨rfl, rfl⟩; rw [HF.out]) | (go_at_call 158; refine (KW.out _).mono ?_; rintro e w' ⟨rfl, rfl⟩; rw [HW.out]))
      go_ret3
      rw [← HR.out]
      exact ⟨ret3_eq HC1.out HC2.out rfl, rfl⟩
    | false =>
      rw [if_pos hwb] at hR
      subst hR
      have HW := Lib.hid hwb
      have HF := Lib.hid hf
      clear hwb hf hb
      go_enter Tryz.func156, Tryz.ntmps156
      go_wp2_with (first | (go_at_call 171; refine (KF.out _).mono ?_; rintro e w' ⟨rfl, rfl⟩; rw [HF.out]) | (go_at_call 158; refine (KW.out _).mono ?_; rintro e w' ⟨rfl, rfl⟩; rw [HW.out]))
      go_ret3
      exact ⟨rfl, rfl⟩
  · have hb : ¬ (1 ≤ n / 8 ∧ n / 8 ≤ 536870911) := by simpa [fitsB] using hf
    rw [if_pos (by omega)] at hR
    subst hR
    have hf' : fitsB (n / 8) = false := by simpa using hf
    have HF := Lib.hid hf'
    clear hf hf' hb
    go_enter Tryz.func156, Tryz.ntmps156
    go_wp2_with (first | (go_at_call 171; refine (KF.out _).mono ?_; rintro e w' ⟨rfl, rfl⟩; rw [HF.out]))
    go_ret3
    exact ⟨rfl, rfl⟩
theorem unfix_take (l : List UInt8) (k : Nat) (h : k < l.length) : unfix (l.take (k + 1)) = unfix (l.take k) + l[k].toNat * 256 ^ k := by
  rw [List.take_succ_eq_append_getElem h, unfix_snoc, List.length_take, Nat.min_eq_left (by omega)]
theorem unfix_take_lt (l : List UInt8) (k : Nat) (h : k ≤ l.length) : unfix (l.take k) < 256 ^ k := by
  have := unfix_lt (l.take k)
  rwa [List.length_take, Nat.min_eq_left h] at this
/-- the number of the first k bytes, or that there aren't as many -/
def tread (l : List UInt8) (k : Nat) : Nat × Nat := if l.length < k then (0, 4) else (unfix (l.take k), 0)
set_option maxRecDepth 100000 in
set_option maxHeartbeats 1000000 in
theorem read_any (l : List UInt8) (k : Nat) (hk : k ≤ 8) (v : Value) (w : World) (hb : Bs w v l) : Calls Tryz.prog 172 #[v, .int .i64 k] w fun e w' => e = .returned (.tuple #[.int .u64 (tread l k).1, .int .i64 (tread l k).2]) ∧ w = w' := by
  obtain ⟨a, c, rfl, h1, h2, -, hc⟩ := hb.open
  unfold maxLen at h2
  obtain ⟨R, hR⟩ : ∃ R, tread l k = R := ⟨_, rfl⟩
  rw [hR]
  unfold tread at hR
  by_cases hs : l.length < k
  · rw [if_pos hs] at hR
    subst hR
    clear hc
    go_enter Tryz.func172, Tryz.ntmps172
    go_wp2
    go_ret2
    exact ⟨rfl, rfl⟩
  · rw [if_neg hs] at hR
    have HR := Lib.hid hR
    clear hR
    have hkl : k ≤ l.length := by omega
    have hkc : k ≤ c := by omega
    go_enter Tryz.func172, Tryz.ntmps172
    go_wp2
    go_loop [6, 17] (fun n i => ∃ j : Nat, j ≤ k ∧ i = .int .i64 j ∧ n = .int .u64 (unfix (l.take j) : Nat)) (fun _ i => k - (intOf i).toNat)
    case atStart => exact ⟨0, by omega, rfl, rfl⟩
    case round =>
      obtain ⟨j, hj, rfl, rfl⟩ := hrel
      by_cases hlt : j < k
      · obtain ⟨b, off, rfl, hcell⟩ := hc (by omega)
        have c1 := hcell j _ (bv_get l j (by omega))
        have hx := l[j].toNat_lt
        have hu := unfix_take l j (by omega)
        have hul := unfix_take_lt l j (by omega)
        have he := eight_or l[j].toNat (unfix (l.take j)) j (by omega) hul (by omega)
        rw [← hu] at he
        obtain ⟨x, hxe⟩ : ∃ x, l[j].toNat = x := ⟨_, rfl⟩
        rw [hxe] at c1 hx he
        have HE := Lib.hid he
        obtain ⟨acc, hacc⟩ : ∃ acc, unfix (l.take j) = acc := ⟨_, rfl⟩
        rw [hacc] at HE ⊢
        clear hxe hc hcell he hu hul hacc
        go_wp2
        go_round
        case rel => exact ⟨j + 1, by omega, by go_num, by rw [HE.out]⟩
        case measure => simp [intOf]; omega
      · obtain rfl : j = k := by omega
        clear hc
        go_wp2
        go_ret2
        rw [← HR.out]
        exact ⟨rfl, rfl⟩
theorem tread_lt (l : List UInt8) (k : Nat) : (tread l k).1 < 256 ^ k := by
  unfold tread
  split
  · exact Nat.pow_pos (by decide)
  · exact unfix_take_lt l k (by omega)
set_option maxRecDepth 10000 in
theorem get64_any (l : List UInt8) (v : Value) (w : World) (hb : Bs w v l) : Calls Tryz.prog 157 #[v] w fun e w' => e = .returned (.tuple #[.int .u64 (tread l 8).1, .int .i64 (tread l 8).2]) ∧ w = w' := by
  have h := read_any l 8 (by omega) v w hb
  obtain ⟨⟨r1, r2⟩, hR⟩ : ∃ R, tread l 8 = R := ⟨_, rfl⟩
  rw [hR] at h ⊢
  rw [show ((8 : Nat) : Int) = 8 from rfl] at h
  have H := Lib.hid h
  clear h hR
  obtain ⟨a, c, rfl, -⟩ := hb.open
  go_enter Tryz.func157, Tryz.ntmps157
  go_wp2_with (go_at_call 172; refine H.out.mono ?_; rintro e w' ⟨rfl, rfl⟩)
  go_ret2
  exact ⟨rfl, rfl⟩
set_option maxRecDepth 10000 in
theorem get32_any (l : List UInt8) (v : Value) (w : World) (hb : Bs w v l) : Calls Tryz.prog 160 #[v] w fun e w' => e = .returned (.tuple #[.int .u32 (tread l 4).1, .int .i64 (tread l 4).2]) ∧ w = w' := by
  have h := read_any l 4 (by omega) v w hb
  have hlt := tread_lt l 4
  obtain ⟨⟨r1, r2⟩, hR⟩ : ∃ R, tread l 4 = R := ⟨_, rfl⟩
  rw [hR] at h hlt ⊢
  rw [show ((4 : Nat) : Int) = 4 from rfl] at h
  have hlt' : r1 ≤ 4294967295 := by simp at hlt; omega
  have H := Lib.hid h
  clear h hR hlt
  obtain ⟨a, c, rfl, -⟩ := hb.open
  go_enter Tryz.func160, Tryz.ntmps160
  go_wp2_with (go_at_call 172; refine H.out.mono ?_; rintro e w' ⟨rfl, rfl⟩)
  go_ret2
  exact ⟨rfl, rfl⟩
set_option maxRecDepth 10000 in
theorem rwire_any (x : Nat) (w : World) : Calls Tryz.prog 110 #[.int .u8 x] w fun e w' => e = .returned (.bool (wireB x)) ∧ w = w' := by
  by_cases h1 : x = 1
  · subst h1
    go_enter Tryz.func110, Tryz.ntmps110
    go_wp2
    go_ret
    exact ⟨rfl, rfl⟩
  by_cases h2 : x = 5
  · subst h2
    go_enter Tryz.func110, Tryz.ntmps110
    go_wp2
    go_ret
    exact ⟨rfl, rfl⟩
  by_cases h3 : x = 0
  · subst h3
    go_enter Tryz.func110, Tryz.ntmps110
    go_wp2
    go_ret
    exact ⟨rfl, rfl⟩
  by_cases h4 : x = 2
  · subst h4
    go_enter Tryz.func110, Tryz.ntmps110
    go_wp2
    go_ret
    exact ⟨rfl, rfl⟩
  · have e2 : wireB x = false := by simp [wireB, h1, h2, h3, h4]
    rw [e2]
    have a1 : ((x : Int) == 1) = false := by simp; omega
    have a2 : ((x : Int) == 5) = false := by simp; omega
    have a3 : ((x : Int) == 0) = false := by simp; omega
    have a4 : ((x : Int) == 2) = false := by simp; omega
    clear e2 h1 h2 h3 h4
    go_enter Tryz.func110, Tryz.ntmps110
    go_wp2
    go_ret
    exact ⟨rfl, rfl⟩
set_option maxRecDepth 10000 in
set_option maxHeartbeats 1000000 in
theorem rmake_any (num : Int) (wire : Nat) (h1 : -9223372036854775808 ≤ num) (h2 : num ≤ 9223372036854775807) (hw : wire < 256) (w : World) :
    Calls Tryz.prog 85 #[.int .i64 num, .int .u8 wire] w fun e w' => e = .returned (.tuple #[.int .u64 (tmake num wire).1, .int .i64 (tmake num wire).2]) ∧ w = w' := by
  obtain ⟨R, hR⟩ : ∃ R, tmake num wire = R := ⟨_, rfl⟩
  rw [hR]
  unfold tmake at hR
  by_cases hn : num < 1
  · rw [if_pos (by omega)] at hR
    subst hR
    go_enter Tryz.func85, Tryz.ntmps85
    go_wp2
    go_ret2
    exact ⟨rfl, rfl⟩
  by_cases hn2 : 536870911 < num
  · rw [if_pos (by omega)] at hR
    subst hR
    go_enter Tryz.func85, Tryz.ntmps85
    go_wp2
    go_ret2
    exact ⟨rfl, rfl⟩
  obtain ⟨n, rfl⟩ := Int.eq_ofNat_of_zero_le (by omega : 0 ≤ num)
  rw [if_neg (by omega)] at hR
  cases hwb : wireB wire with
  | true =>
    rw [if_neg (by simp [hwb])] at hR
    have HR := Lib.hid hR
    have HW := Lib.hid hwb
    clear hwb hR
    go_enter Tryz.func85, Tryz.ntmps85
    go_wp2_with (go_at_call 110; refine (rwire_any _ _).mono ?_; rintro e w' ⟨rfl, rfl⟩; rw [HW.out])
    go_ret2
    rw [← HR.out]
    exact ⟨ret2_eq (by simp) rfl, rfl⟩
  | false =>
    rw [if_pos hwb] at hR
    subst hR
    have HW := Lib.hid hwb
    clear hwb
    go_enter Tryz.func85, Tryz.ntmps85
    go_wp2_with (go_at_call 110; refine (rwire_any _ _).mono ?_; rintro e w' ⟨rfl, rfl⟩; rw [HW.out])
    go_ret2
    exact ⟨rfl, rfl⟩
set_option maxRecDepth 10000 in
set_option maxHeartbeats 1000000 in
theorem rsplit_any (n : Nat) (hn : n < 18446744073709551616) (w : World) :
    Calls Tryz.prog 118 #[.int .u64 n] w fun e w' => e = .returned (.tuple #[.int .i64 (tsplit n).1, .int .u8 (tsplit n).2.1, .int .i64 (tsplit n).2.2]) ∧ w = w' := by
  obtain ⟨R, hR⟩ : ∃ R, tsplit n = R := ⟨_, rfl⟩
  rw [hR]
  unfold tsplit at hR
  have hm : (0 : Int) ≤ (n : Int) % 8 ∧ (n : Int) % 8 < 8 := by omega
  have hq : (0 : Int) ≤ (n : Int) / 8 ∧ (n : Int) / 8 ≤ 2305843009213693951 := by omega
  have c1 : ((n : Int) / 8) = ((n / 8 : Nat) : Int) := by omega
  have c2 : ((n : Int) % 8) = ((n % 8 : Nat) : Int) := by omega
  have HC1 := Lib.hid c1
  have HC2 := Lib.hid c2
  clear c1 c2
  have kw := fun w => rwire_any (n % 8) w
  simp only [← HC2.out] at kw
  have KW := Lib.hid kw
  clear kw
  by_cases hf1 : n / 8 < 1
  · rw [if_pos (by omega)] at hR
    subst hR
    have : (n : Int) / 8 < 1 := by omega
    go_enter Tryz.func118, Tryz.ntmps118
    go_wp2
    go_ret3
    exact ⟨rfl, rfl⟩
  by_cases hf2 : 536870911 < n / 8
  · rw [if_pos (by omega)] at hR
    subst hR
    have : 536870911 < (n : Int) / 8 := by omega
    go_enter Tryz.func118, Tryz.ntmps118
    go_wp2
    go_ret3
    exact ⟨rfl, rfl⟩
  rw [if_neg (by omega)] at hR
  have f1 : 1 ≤ (n : Int) / 8 := by omega
  have f2 : (n : Int) / 8 ≤ 536870911 := by omega
  cases hwb : wireB (n % 8) with
  | true =>
    rw [if_neg (by simp [hwb])] at hR
    have HR := Lib.hid hR
    have HW := Lib.hid hwb
    clear hwb hR
    go_enter Tryz.func118, Tryz.ntmps118
    go_wp2_with (go_at_call 110; refine (KW.out _).mono ?_; rintro e w' ⟨rfl, rfl⟩; rw [HW.out])
    go_ret3
    rw [← HR.out]
    exact ⟨ret3_eq HC1.out HC2.out rfl, rfl⟩
  | false =>
    rw [if_pos hwb] at hR
    subst hR
    have HW := Lib.hid hwb
    clear hwb
    go_enter Tryz.func118, Tryz.ntmps118
    go_wp2_with (go_at_call 110; refine (KW.out _).mono ?_; rintro e w' ⟨rfl, rfl⟩; rw [HW.out])
    go_ret3
    exact ⟨rfl, rfl⟩
end Go.Proofs.YtbjoohafgkodcaaGreat
namespace Go.Proofs.YtbjoohafgkodcaaGreat
open Go Go.RowKit Go.Shelf
attribute [local go_sem] Oper.semAt_some

def byL (n k : Nat) : List Nat := (List.range k).map fun i => n / 256 ^ i % 256
theorem byL_length (n k : Nat) : (byL n k).length = k := by simp [byL]
theorem byL_fix (n k : Nat) : (byL n k).map UInt8.ofNat = fixB k n := by
  induction k with
  | zero => rfl
  | succ k ih => rw [fixB_snoc, ← ih]; simp [byL, List.range_succ]
theorem byL_take (n k j : Nat) (h : j < k) : (byL n k).take j ++ (n / 256 ^ j % 256) :: (byL n k).drop (j + 1) = byL n k := by
  have e : (byL n k)[j]'(by rw [byL_length]; exact h) = n / 256 ^ j % 256 := by simp [byL]
  rw [← e, ← List.drop_eq_getElem_cons, List.take_append_drop]
theorem byL_snoc (n k j : Nat) (h : j < k) : (byL n k).take (j + 1) = (byL n k).take j ++ [n / 256 ^ j % 256] := by
  rw [List.take_succ_eq_append_getElem (by rw [byL_length]; exact h)]; simp [byL]

theorem bytesOf_any (n k : Nat) (w : World) : Calls Tryz.prog 177 #[.int .u64 n, .int .i64 k] w fun e w' => e = .returned (.func (.func 178) #[] #[.pointer (some ⟨w.heap.size + 1, 0, none⟩), .pointer (some ⟨w.heap.size, 0, none⟩)]) ∧ w' = (w.alloc (.cells #[.int .u64 n] 24)).alloc (.cells #[.int .i64 k] 3) := by
  go_enter Tryz.func177, Tryz.ntmps177
  go_wp2
  go_ret
  exact ⟨rfl, rfl⟩

theorem shr8 (n j : Nat) : IntKind.u8.wrap ((n : Int) / 2 ^ (8 * j)) = ((n / 256 ^ j % 256 : Nat) : Int) := by
  rw [IntKind.wrap_u8', show ((2 : Int) ^ (8 * j)) = ((256 ^ j : Nat) : Int) by rw [← two8, Int.natCast_pow]; rfl, Int.natCast_emod, Int.natCast_ediv]
  rfl

set_option maxRecDepth 100000 in
set_option maxHeartbeats 2000000 in
theorem bytes_iter (n k Bk Bn : Nat) (hk : k ≤ 8) (_hn : n < 18446744073709551616) (w : World) (hck : Blk w Bk 3 #[.int .i64 k]) (hcn : Blk w Bn 24 #[.int .u64 n]) :
    IterAll Tryz.prog 178 #[.pointer (some ⟨Bk, 0, none⟩), .pointer (some ⟨Bn, 0, none⟩)] (fun p : Nat => #[Value.int .u8 (p : Int)]) Eq (fun A B => KeepB Bk 3 A B ∧ KeepB Bn 24 A B) (fun pre x => x < 256 ∧ ∃ t, pre ++ x :: t = byL n k) (fun xs => xs = byL n k) w := by
  intro lp J W hW hJ hY h0
  have hk0 := hck.grew hW
  have hn0 := hcn.grew hW
  refine callsIn_of_wp Tryz.func178 rfl trivial ?_ rfl
  simp only [Tryz.ntmps178, List.size_toArray, List.length_cons, List.length_nil, Nat.reduceAdd, Nat.reduceSub, Array.replicate_succ, Array.replicate_zero, List.push_toArray, List.append_toArray, List.nil_append, List.cons_append]
  gi_wp2
  gi_loopw [4] (fun i wr => ∃ j : Nat, j ≤ k ∧ i = .int .i64 j ∧ J ((byL n k).take j) wr ∧ Blk wr Bk 3 #[.int .i64 k] ∧ Blk wr Bn 24 #[.int .u64 n]) (fun i _ => k - (intOf i).toNat)
  case atStart => exact ⟨0, Nat.zero_le _, rfl, h0, hk0, hn0⟩
  case round =>
    obtain ⟨j, hj, rfl, hJ1, hb1, hb2⟩ := hrel
    have c1 := hb1.cell 0
    have c2 := hb2.cell 0
    simp only [List.getElem?_toArray, List.getElem?_cons_zero] at c1 c2
    clear hJ hk0 hn0 hck hcn h0 hW
    by_cases hlt : j < k
    · have hs := shr8 n j
      obtain ⟨p, hp⟩ : ∃ p, n / 256 ^ j % 256 = p := ⟨_, rfl⟩
      have hp256 : p < 256 := by omega
      have htk := byL_take n k j hlt
      have hsn := byL_snoc n k j hlt
      rw [hp] at hs htk hsn
      have hd : decide (j < k) = true := by simpa using hlt
      obtain ⟨fn, tmps, assign, body, hy, hR⟩ := hY _ p wr hJ1 ⟨hp256, _, htk⟩
      have HSN := Lib.hid hsn
      clear hp htk hsn hY hJ1
      gi_wp2
      refine hR.mono ?_
      rintro e W3 ⟨rfl, hJ3, hk3, hn3⟩
      rw [← HSN.out] at hJ3
      have hb3 := hk3 _ hb1
      have hb4 := hn3 _ hb2
      clear hy hR hk3 hn3 hb1 hb2 c1 c2
      gi_wp2
      go_roundw
      case rel => exact ⟨j + 1, by omega, by go_num, hJ3, hb3, hb4⟩
      case measure => simp [intOf]; omega
    · obtain rfl : j = k := by omega
      rw [List.take_of_length_le (by rw [byL_length]; exact Nat.le_refl _)] at hJ1
      have hd : decide (j < j) = false := by simp
      clear hY
      gi_wp2
      go_end0
      exact ⟨⟨_, rfl⟩, _, rfl, hJ1⟩

/-- while 'fixed' goes -/
def FixI (b : Nat) (w : World) (pre : List Nat) (W : World) : Prop := ∃ v, Blk W b 22 #[v] ∧ OwnB W w.heap.size v (pre.map UInt8.ofNat) ∧ Grew w W
theorem FixI.ck {b : Nat} {w : World} {pre : List Nat} {n : Nat} {A B : World} (h : FixI b w pre A) (e : CK n A B) (hn : w.heap.size ≤ n) : FixI b w pre B := by
  obtain ⟨v, h1, h3, h4⟩ := h
  exact ⟨v, e.blk h1, e.own h3, e.below h4 hn⟩
set_option maxRecDepth 100000 in
set_option maxHeartbeats 2000000 in
theorem fixed_any (n k : Nat) (hk : k = 4 ∨ k = 8) (hn : n < 18446744073709551616) (w : World) : Calls Tryz.prog 175 #[.int .u64 n, .int .i64 k] w fun e w' => ∃ v, e = .returned v ∧ OwnB w' w.heap.size v (fixB k n) ∧ Grew w w' := by
  have hk8 : k ≤ 8 := by omega
  refine (callsIn_wide (n := 0)).1 (callsIn_of_wp_marks Tryz.func175 rfl trivial ?_ rfl)
  simp only [Tryz.ntmps175, List.size_toArray, List.length_cons, List.length_nil, Nat.reduceAdd, Nat.reduceSub, Array.replicate_succ, Array.replicate_zero, List.push_toArray, List.append_toArray, List.nil_append, List.cons_append]
  obtain ⟨i0, hi, hz0, hz1, hz2⟩ := info_parts info_u8
  obtain ⟨w1, hrun, hown, hgr⟩ := run_makeSlice_owned (P := Tryz.prog) (w := w) w.heap.size 22 5 i0 (.int .u8 0) 1 Tryz.underlying22 hi hz0 hz1 .i64 .i64 k (by omega) (by rw [hz2]; omega) (by unfold maxLen; omega) (Nat.le_refl _)
  gi_wp2_with (first | (gi_at_call 177; refine (callsIn_wide.2 (bytesOf_any _ _ _)).mono ?_; rintro e w1 ⟨rfl, rfl⟩))
  gi_wp2
  have g1 : Grew w w1 := (Below.refl _ w).grown hgr (Nat.le_refl _) (fun k hk => by cases hk)
  have hlt : w.heap.size ≤ w1.heap.size := g1.size
  clear hrun hgr
  refine wpIn_all (gf := 178) (lb := #[.pointer (some ⟨w1.heap.size + 1 + 1, 0, none⟩), .pointer (some ⟨w1.heap.size + 1, 0, none⟩)]) rfl (enters_of Tryz.func178 (by kernel_rfl) rfl)
    (bytes_iter n k (w1.heap.size + 1 + 1) (w1.heap.size + 1) hk8 hn _ (Blk.at (by simp)) ((Blk.at (by simp)).alloc _)) (fun A B e => e ▸ KeepsOthers.refl _) (fun A B C D h1 h2 h3 => ⟨fun cs hc => h3.blk (h2.1 _ (h1.blk hc)), fun cs hc => h3.blk (h2.2 _ (h1.blk hc))⟩) (fun _ => rfl)
    (FixI w1.heap.size w) (fun pre A B h e => e ▸ h) (fun pre A B h hc => h.ck hc (by simp; omega))
    ⟨_, ((Blk.at rfl).alloc _).alloc _, own_grew hown (((grew_alloc _ _).trans (grew_alloc _ _)).trans (grew_alloc _ _)), g1.trans (((grew_alloc _ _).trans (grew_alloc _ _)).trans (grew_alloc _ _))⟩ ?round ?done
  case round =>
    rintro lp pre x W hi ⟨hx, t, hok⟩
    have hpl : pre.length + 1 ≤ 8 := by
      have := congrArg List.length hok
      rw [byL_length] at this
      simp at this; omega
    gi_wp2
    refine ⟨trivial, ?_⟩
    rintro W2 hck hsz ⟨v, h1, h3, h4⟩
    have HOK := Lib.hid hok
    clear hi hok hck hsz hown
    have c1 := h1.cell 0
    simp only [List.getElem?_toArray, List.getElem?_cons_zero] at c1
    have hne1 : some w1.heap.size ≠ v.ownBlock := blk_ne_row h1 h3 (by decide)
    have hl : (pre.map UInt8.ofNat).length ≤ 8 := by simp; omega
    gi_wp2_with (gi_at_builtin; refine wpListIn_push rfl _ _ rfl w.heap.size v _ rfl (own_grew h3 (grew_alloc _ _)) _ rfl [UInt8.ofNat x] (bs_byte _ _ _ (ofNat_byte x hx)) (by simp only [List.length_cons, List.length_nil]; omega) (by have := h4.size; simp; omega) ?_; intro v' w2 hown1 hB1 hgb; obtain ⟨a', c', rfl, -⟩ := (Sl.of_own hown1).open; have hb1 := (h1.alloc _).kept hgb hne1; have f1' := hb1.frozen 0; have c1' := hb1.cell 0; simp only [List.getElem?_toArray, List.getElem?_cons_zero] at c1')
    refine ⟨((KeepsOthers.alloc _ _).trans (keepsOthers_app (own_grew h3 (grew_alloc _ _)) hgb)).trans (KeepsOthers.setCell _ _ _), ⟨?_, ?_⟩, _, hb1.set 0 _, ?_, ?_⟩
    · intro cs hc
      exact ((hc.alloc _).kept hgb (blk_ne_row hc h3 (by decide))).other _ _ (by simp <;> omega)
    · intro cs hc
      exact ((hc.alloc _).kept hgb (blk_ne_row hc h3 (by decide))).other _ _ (by simp <;> omega)
    · have := own_set hown1 ⟨w1.heap.size, 0, none⟩ (.slice a' (pre.map UInt8.ofNat ++ [UInt8.ofNat x]).length c') (fun e' => blk_ne_row hb1 hown1 (by decide) e'.symm)
      rw [List.map_append]
      simp only [OwnB, List.map_cons, List.map_nil, List.length_map, List.length_append, List.length_cons, List.length_nil, Nat.zero_add] at this ⊢
      exact this
    · exact grew_set (((h4.alloc h4.size _).trans (hB1.mono (by simp)))) (by omega) _
  case done =>
    rintro xs W rfl ⟨v, h1, h3, h4⟩ hD
    have c1 := h1.cell 0
    simp only [List.getElem?_toArray, List.getElem?_cons_zero] at c1
    rw [byL_fix] at h3
    obtain ⟨a, c, rfl, -⟩ := (Sl.of_own h3).open
    gi_wp2
    refine ⟨by simp, .inl ⟨_, _, rfl, run_takeDeferred hD, ?_⟩⟩
    have hck := CK.putObj _ W _ _ (.deferred none) hD rfl (Nat.le_refl _)
    refine ⟨_, results_tmp rfl _ _ _, _, rfl, ?_, Below.trans h4 (hck.toBelow (by simp; omega))⟩
    exact hck.own h3

theorem fix32_any (n : Nat) (hn : n < 4294967296) (w : World) : Calls Tryz.prog 166 #[.int .u32 n] w fun e w' => ∃ v, e = .returned v ∧ OwnB w' w.heap.size v (fixB 4 n) ∧ Grew w w' := by
  have h := fixed_any n 4 (.inl rfl) (by omega) w
  have H := Lib.hid h
  clear h
  go_enter Tryz.func166, Tryz.ntmps166
  go_wp2_with fail
  refine H.out.mono ?_
  rintro e w1 ⟨v, rfl, h1, h2⟩
  go_wp2
  go_ret
  exact ⟨_, rfl, h1, h2⟩
theorem fix64_any (n : Nat) (hn : n < 18446744073709551616) (w : World) : Calls Tryz.prog 165 #[.int .u64 n] w fun e w' => ∃ v, e = .returned v ∧ OwnB w' w.heap.size v (fixB 8 n) ∧ Grew w w' := by
  have h := fixed_any n 8 (.inr rfl) (by omega) w
  have H := Lib.hid h
  clear h
  go_enter Tryz.func165, Tryz.ntmps165
  go_wp2_with fail
  refine H.out.mono ?_
  rintro e w1 ⟨v, rfl, h1, h2⟩
  go_wp2
  go_ret
  exact ⟨_, rfl, h1, h2⟩
set_option maxRecDepth 100000 in
set_option maxHeartbeats 1000000 in
theorem rfix_any (n k : Nat) (hk : k ≤ 8) (hn : n < 18446744073709551616) (w : World) : Calls Tryz.prog 87 #[.int .u64 n, .int .i64 k] w fun e w' => ∃ v, e = .returned v ∧ OwnB w' w.heap.size v (fixB k n) ∧ Grew w w' := by
  obtain ⟨R, hR⟩ : ∃ R, fixB k n = R := ⟨_, rfl⟩
  rw [hR]
  have HR := Lib.hid hR
  clear hR
  go_enter Tryz.func87, Tryz.ntmps87
  go_wp2
  go_loopw [0, 5, 6] (fun m v i wr => ∃ (j m' : Nat) (pre : List UInt8), j ≤ k ∧ i = .int .i64 j ∧ m = .int .u64 m' ∧ m' < 18446744073709551616 ∧ pre.length = j ∧ R = pre ++ fixB (k - j) m' ∧ OwnB wr w.heap.size v pre ∧ Grew w wr) (fun _ _ i _ => k - (intOf i).toNat)
  case atStart => exact ⟨0, n, [], by omega, rfl, rfl, hn, rfl, HR.out.symm, ownB_nil _ _, Below.refl _ _⟩
  case round =>
    obtain ⟨j, m, pre, hj, rfl, rfl, hm, hpl, hv, hown, hB⟩ := hrel
    by_cases hlt : j < k
    · rw [show k - j = (k - (j + 1)) + 1 by omega, fixB] at hv
      have HV := Lib.hid hv
      have HPL := Lib.hid hpl
      have hpl' : pre.length ≤ 8 := by omega
      clear hv hpl
      have hb1 : (0 : Int) ≤ (m : Int) % 256 ∧ (m : Int) % 256 < 256 := by omega
      go_wp2_with (at_builtin; refine wpList_push rfl _ _ rfl w.heap.size _ _ rfl (own_grew hown (grew_alloc _ _)) _ rfl [UInt8.ofNat (m % 256)] (bs_byte _ _ _ (by rw [ofNat_byte _ (by omega)]; push_cast; rfl)) (by simp; omega) (by have := hB.size; simp; omega) ?_; intro v' w1 hown1 hB1 _)
      go_roundw
      case rel => exact ⟨j + 1, m / 256, pre ++ [UInt8.ofNat (m % 256)], by omega, by go_num, by go_num, by omega, by simp [HPL.out], by rw [HV.out]; simp, hown1, (hB.alloc hB.size _).trans hB1⟩
      case measure => simp [intOf]; omega
    · obtain rfl : j = k := by omega
      rw [Nat.sub_self, fixB, List.append_nil] at hv
      have HV := Lib.hid hv
      clear hv hpl
      go_wp2
      go_ret
      rw [HV.out]
      exact ⟨_, rfl, hown, hB⟩
theorem unfix_drop (l : List UInt8) (k : Nat) (h : k < l.length) : unfix (l.drop k) = l[k].toNat + 256 * unfix (l.drop (k + 1)) := by
  rw [List.drop_eq_getElem_cons h]; rfl
theorem unfix_step (l : List UInt8) (k j : Nat) (hk : k ≤ l.length) (h : j < k) : unfix ((l.take k).drop j) = l[j].toNat + 256 * unfix ((l.take k).drop (j + 1)) := by
  have h1 := unfix_drop (l.take k) j (by rw [List.length_take]; omega)
  rw [h1]
  congr 2
  rw [List.getElem_take]
theorem unfix_drop_lt (l : List UInt8) (k j : Nat) (hk : k ≤ l.length) : unfix ((l.take k).drop j) < 256 ^ (k - j) := by
  have := unfix_lt ((l.take k).drop j)
  rwa [List.length_drop, List.length_take, Nat.min_eq_left hk] at this
set_option maxRecDepth 100000 in
set_option maxHeartbeats 1000000 in
theorem runfix_any (l : List UInt8) (k : Nat) (hk : k ≤ 8) (hkl : k ≤ l.length) (v : Value) (w : World) (hb : Bs w v l) : Calls Tryz.prog 119 #[v, .int .i64 k] w fun e w' => e = .returned (.int .u64 (unfix (l.take k) : Nat)) ∧ w = w' := by
  obtain ⟨a, c, rfl, h1, h2, -, hc⟩ := hb.open
  unfold maxLen at h2
  obtain ⟨R, hR⟩ : ∃ R, unfix (l.take k) = R := ⟨_, rfl⟩
  rw [hR]
  have HR := Lib.hid hR
  clear hR
  go_enter Tryz.func119, Tryz.ntmps119
  go_wp2
  go_loop [5, 6] (fun n i => ∃ j : Nat, j ≤ k ∧ i = .int .i64 ((j : Int) - 1) ∧ n = .int .u64 (unfix ((l.take k).drop j) : Nat)) (fun _ i => (intOf i + 1).toNat)
  case atStart => exact ⟨k, by omega, rfl, by rw [List.drop_eq_nil_of_le (by rw [List.length_take]; omega)]; rfl⟩
  case round =>
    obtain ⟨j, hj, rfl, rfl⟩ := hrel
    by_cases hlt : 0 < j
    · obtain ⟨i, rfl⟩ : ∃ i, j = i + 1 := ⟨j - 1, by omega⟩
      obtain ⟨b, off, rfl, hcell⟩ := hc (by omega)
      have c1 := hcell i _ (bv_get l i (by omega))
      have hx := l[i].toNat_lt
      have hu := unfix_step l k i hkl (by omega)
      have hul := unfix_drop_lt l k (i + 1) hkl
      have hp : (256 : Nat) ^ (k - (i + 1)) ≤ 72057594037927936 := by
        rw [show (72057594037927936 : Nat) = 256 ^ 7 by decide]; exact Nat.pow_le_pow_right (by decide) (by omega)
      obtain ⟨x, hxe⟩ : ∃ x, l[i].toNat = x := ⟨_, rfl⟩
      rw [hxe] at c1 hx hu
      obtain ⟨acc, hacc⟩ : ∃ acc, unfix ((l.take k).drop (i + 1)) = acc := ⟨_, rfl⟩
      rw [hacc] at hu hul ⊢
      have hab : acc < 72057594037927936 := by omega
      have HU := Lib.hid hu
      clear hxe hc hcell hu hul hacc hp
      have e1 : ((i + 1 : Nat) : Int) - 1 = (i : Int) := by omega
      rw [e1]
      clear e1
      go_wp2
      go_round
      case rel => exact ⟨i, by omega, by go_num, by rw [HU.out]; go_num⟩
      case measure => simp [intOf]
    · obtain rfl : j = 0 := by omega
      clear hc
      rw [List.drop_zero, HR.out]
      go_wp2
      go_ret
      exact ⟨rfl, rfl⟩
end Go.Proofs.YtbjoohafgkodcaaGreat
