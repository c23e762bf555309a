/- Bits that are turned one by one: plain laws. No walk. -/
import Derived.Test.YtgoaijpckckdnaaCrcX
namespace Go.Proofs.Ytgoaijpckckdnaa
open Go Go.RowKit Go.Shelf

theorem bit_test (v i : Nat) : ((((v : Int) / 2 ^ i).tmod 2) == 1) = v.testBit i := by
  have h0 : (v : Int) / 2 ^ i = ((v / 2 ^ i : Nat) : Int) := by simp
  have h1 : ((v : Int) / 2 ^ i).tmod 2 = ((v / 2 ^ i % 2 : Nat) : Int) := by rw [h0]; rfl
  rw [h1, Nat.testBit_eq_decide_div_mod_eq]
  rcases Nat.mod_two_eq_zero_or_one (v / 2 ^ i) with h | h <;> simp [h]

theorem u8_turn (x r : Nat) (hx : x < 256) (hr : r < 8) : bits .xor .u8 (x : Int) (2 ^ r % 256) = ((UInt8.ofNat (x ^^^ 2 ^ r)).toNat : Int) := by
  have h2 : 2 ^ r < 256 := Nat.pow_lt_pow_right (m := r) (n := 8) (by decide) hr
  have e : ((2 : Int) ^ r % 256) = ((2 ^ r : Nat) : Int) := by
    have : ((2 ^ r : Nat) : Int) = (2 : Int) ^ r := by simp
    rw [← this]; exact Int.emod_eq_of_lt (Int.natCast_nonneg _) (Int.ofNat_lt.2 h2)
  have hx2 : x ^^^ 2 ^ r < 2 ^ 8 := Nat.xor_lt_two_pow (by omega) (by omega)
  rw [e, u8_xor_nat x (2 ^ r) hx h2, UInt8.toNat_ofNat', Nat.mod_eq_of_lt hx2]
theorem turned (l ls : List UInt8) (n k v N : Nat) (hK : n + k < 8 * ls.length) (hv : v.testBit k = true)
    (h : ∀ j, j < N → bitAt ls j = (bitAt l j != (decide (n ≤ j ∧ j < n + k) && v.testBit (j - n)))) :
    ∀ j, j < N → bitAt (turn ls (n + k)) j = (bitAt l j != (decide (n ≤ j ∧ j < n + (k + 1)) && v.testBit (j - n))) := by
  intro j hj
  rw [turn_bit ls _ j hK, h j hj]
  by_cases e : j = n + k
  · subst e
    rw [show decide (n ≤ n + k ∧ n + k < n + k) = false from decide_eq_false (by omega), show decide (n ≤ n + k ∧ n + k < n + (k + 1)) = true from decide_eq_true (by omega), show n + k - n = k by omega, hv]
    simp
  · have e2 : decide (n ≤ j ∧ j < n + (k + 1)) = decide (n ≤ j ∧ j < n + k) := by
      apply decide_eq_decide.2; constructor <;> intro h <;> omega
    rw [e2]
    simp [e]
theorem unturned (l ls : List UInt8) (n k v N : Nat) (hv : v.testBit k = false)
    (h : ∀ j, j < N → bitAt ls j = (bitAt l j != (decide (n ≤ j ∧ j < n + k) && v.testBit (j - n)))) :
    ∀ j, j < N → bitAt ls j = (bitAt l j != (decide (n ≤ j ∧ j < n + (k + 1)) && v.testBit (j - n))) := by
  intro j hj
  rw [h j hj]
  by_cases e : j = n + k
  · subst e
    rw [show decide (n ≤ n + k ∧ n + k < n + k) = false from decide_eq_false (by omega), show n + k - n = k by omega, hv]
    simp
  · have e2 : decide (n ≤ j ∧ j < n + (k + 1)) = decide (n ≤ j ∧ j < n + k) := by
      apply decide_eq_decide.2; constructor <;> intro h <;> omega
    rw [e2]

end Go.Proofs.Ytgoaijpckckdnaa
