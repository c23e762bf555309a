/- Bits that are turned one by one: plain laws. No walk. ; Bursts: what up to 32 changed bits in a row do to a sum. No program in sight. -/
import Derived.Test.YtbjoohafgkodcaaGreatCrcB
namespace Go.Proofs.YtbjoohafgkodcaaGreat

def zeros (k : Nat) : List Bool := List.replicate k false
theorem cstep_zero (s : Nat) (hs : s < 4294967296) (h : cstep s false = 0) : s = 0 := by
  unfold cstep at h
  by_cases ho : s % 2 = 1
  · rw [ho] at h
    rw [if_pos (by decide)] at h
    exfalso
    have h2 : s / 2 = 3988292384 := by
      have : (s / 2 ^^^ 3988292384) ^^^ 3988292384 = 0 ^^^ 3988292384 := by rw [h]
      rw [Nat.xor_assoc, Nat.xor_self, Nat.xor_zero, Nat.zero_xor] at this
      exact this
    omega
  · have h0 : s % 2 = 0 := by omega
    rw [h0] at h
    simp at h
    omega
theorem crun_zeros_zero (k : Nat) : ∀ s, s < 4294967296 → crun s (zeros k) = 0 → s = 0 := by
  induction k with
  | zero => intro s _ h; exact h
  | succ k ih =>
    intro s hs h
    refine cstep_zero s hs (ih _ (cstep_lt _ _ hs) ?_)
    simpa [zeros, List.replicate_succ, crun] using h
theorem crun_zero (k : Nat) : crun 0 (zeros k) = 0 := by
  induction k with
  | zero => rfl
  | succ k ih => simpa [zeros, List.replicate_succ, crun, cstep] using ih
theorem bitsOf_append (a b : List UInt8) : bitsOf (a ++ b) = bitsOf a ++ bitsOf b := by simp [bitsOf]
theorem bitsOf_length (l : List UInt8) : (bitsOf l).length = 8 * l.length := by
  induction l with
  | nil => rfl
  | cons x l ih =>
    have : bitsOf (x :: l) = lowBits 8 x.toNat ++ bitsOf l := rfl
    rw [this, List.length_append, ih, lowBits_length, List.length_cons]; omega
theorem lowBits_get (k : Nat) : ∀ (v j : Nat), j < k → (lowBits k v)[j]? = some (v.testBit j) := by
  induction k with
  | zero => intro v j h; omega
  | succ k ih =>
    intro v j h
    cases j with
    | zero =>
      simp only [lowBits, List.getElem?_cons_zero, Nat.testBit_zero]
      rcases Nat.mod_two_eq_zero_or_one v with h | h <;> simp [h]
    | succ j => simp only [lowBits, List.getElem?_cons_succ]; rw [ih (v / 2) j (by omega), Nat.testBit_succ]
theorem bitsOf_le32 (s : Nat) (h : s < 4294967296) : bitsOf (le32 s) = lowBits 32 s := by
  have e : ∀ n : Nat, n < 256 → (UInt8.ofNat n).toNat = n := fun n hn => by rw [UInt8.toNat_ofNat']; omega
  have h1 : lowBits 32 s = lowBits 8 s ++ (lowBits 8 (s / 2 ^ 8) ++ (lowBits 8 (s / 2 ^ 8 / 2 ^ 8) ++ lowBits 8 (s / 2 ^ 8 / 2 ^ 8 / 2 ^ 8))) := by
    rw [show (32 : Nat) = 8 + 24 from rfl, lowBits_add, show (24 : Nat) = 8 + 16 from rfl, lowBits_add, show (16 : Nat) = 8 + 8 from rfl, lowBits_add]
  rw [h1]
  simp only [bitsOf, le32, List.flatMap_cons, List.flatMap_nil, List.append_nil]
  rw [e _ (by omega), e _ (by omega), e _ (by omega), e _ (by omega)]
  rw [show s % 256 = s % 2 ^ 8 from rfl, lowBits_mod, show s / 256 % 256 = s / 2 ^ 8 % 2 ^ 8 from rfl, lowBits_mod]
  rw [show s / 65536 % 256 = s / 2 ^ 8 / 2 ^ 8 % 2 ^ 8 by rw [Nat.div_div_eq_div_mul], lowBits_mod]
  rw [show s / 16777216 = s / 2 ^ 8 / 2 ^ 8 / 2 ^ 8 by rw [Nat.div_div_eq_div_mul, Nat.div_div_eq_div_mul]]

/-- sealed bytes have one and the same residue -/
theorem residue (l : List UInt8) : crun 4294967295 (bitsOf (cseal l)) = crun 4294967295 (zeros 32) := by
  have hc := cfrom_lt 4294967295 l (by decide)
  unfold cseal
  rw [bitsOf_append, crun_append, bitsOf_le32 _ (csum_lt l)]
  show crun (cfrom 4294967295 l) (lowBits 32 (csum l)) = _
  rw [crun_feed 32 _ _ (csum_lt l)]
  unfold csum
  rw [← Nat.xor_assoc, Nat.xor_self, Nat.zero_xor]
  rfl

/-- bit j of bytes -/
def bitAt (l : List UInt8) (j : Nat) : Bool := (l.getD (j / 8) 0).toNat.testBit (j % 8)
theorem bitsOf_get (l : List UInt8) : ∀ j, j < 8 * l.length → (bitsOf l)[j]? = some (bitAt l j) := by
  induction l with
  | nil => intro j h; simp at h
  | cons x l ih =>
    intro j h
    have e : bitsOf (x :: l) = lowBits 8 x.toNat ++ bitsOf l := rfl
    rw [e]
    by_cases hj : j < 8
    · rw [List.getElem?_append_left (by rw [lowBits_length]; exact hj), lowBits_get _ _ _ hj]
      simp [bitAt, show j / 8 = 0 by omega, show j % 8 = j by omega]
    · rw [List.getElem?_append_right (by rw [lowBits_length]; omega), lowBits_length, ih (j - 8) (by simp at h; omega)]
      have h1 : j / 8 = (j - 8) / 8 + 1 := by omega
      have h2 : j % 8 = (j - 8) % 8 := by omega
      simp only [bitAt, h1, h2, List.getD_cons_succ]

/-- **with up to 32 bits in a row changed, sealed bytes aren't opened** -/
theorem burst (l s : List UInt8) (at_ v : Nat) (hv : v < 4294967296) (h0 : v ≠ 0) (hat : at_ + 32 ≤ 8 * (l.length + 4)) (hlen : s.length = l.length + 4)
    (hbits : ∀ j, j < 8 * (l.length + 4) → bitAt s j = (bitAt (cseal l) j != (decide (at_ ≤ j ∧ j < at_ + 32) && v.testBit (j - at_)))) : ∀ p, cseal p ≠ s := by
  intro p hp
  have hL : (cseal l).length = l.length + 4 := by simp [cseal, le32]
  have hD : bitsOf s = List.zipWith (· != ·) (bitsOf (cseal l)) (zeros at_ ++ (lowBits 32 v ++ zeros (8 * (l.length + 4) - at_ - 32))) := by
    apply List.ext_getElem?
    intro j
    by_cases hj : j < 8 * (l.length + 4)
    · rw [bitsOf_get s j (by omega), List.getElem?_zipWith, bitsOf_get (cseal l) j (by omega), hbits j hj]
      by_cases h1 : j < at_
      · rw [List.getElem?_append_left (by simp [zeros]; exact h1)]
        have : ¬ at_ ≤ j := by omega
        simp [zeros, h1, this]
      · rw [List.getElem?_append_right (by simp [zeros]; omega)]
        simp only [zeros, List.length_replicate]
        by_cases h2 : j < at_ + 32
        · rw [List.getElem?_append_left (by rw [lowBits_length]; omega), lowBits_get _ _ _ (by omega)]
          simp [h2, show at_ ≤ j by omega]
        · rw [List.getElem?_append_right (by rw [lowBits_length]; omega), lowBits_length, List.getElem?_replicate, if_pos (by omega)]
          have : ¬ (j < at_ + 32) := h2
          simp [this]
    · have h1 : (bitsOf s)[j]? = none := by rw [List.getElem?_eq_none]; rw [bitsOf_length]; omega
      rw [h1, List.getElem?_eq_none]
      rw [List.length_zipWith, bitsOf_length]; omega
  have h1 := residue l
  have h2 := residue p
  rw [hp, hD] at h2
  have hx := crun_xor (bitsOf (cseal l)) (zeros at_ ++ (lowBits 32 v ++ zeros (8 * (l.length + 4) - at_ - 32))) 4294967295 0 (by
    rw [bitsOf_length, hL]; simp [zeros, lowBits_length]; omega)
  rw [Nat.xor_zero, h2, h1] at hx
  have hz : crun 0 (zeros at_ ++ (lowBits 32 v ++ zeros (8 * (l.length + 4) - at_ - 32))) = 0 := by
    have : ∀ a b : Nat, a = a ^^^ b → b = 0 := fun a b h => by
      have h' : a ^^^ a = a ^^^ (a ^^^ b) := by rw [← h]
      rw [Nat.xor_self, ← Nat.xor_assoc, Nat.xor_self, Nat.zero_xor] at h'
      exact h'.symm
    exact this _ _ hx
  rw [crun_append, crun_zero, crun_append] at hz
  have h3 := crun_zeros_zero _ _ (crun_lt _ _ (by decide)) hz
  rw [crun_feed 32 0 v hv, Nat.zero_xor] at h3
  exact h0 (crun_zeros_zero 32 v hv h3)

theorem copen_burst (l s : List UInt8) (at_ v : Nat) (hv : v < 4294967296) (h0 : v ≠ 0) (hat : at_ + 32 ≤ 8 * (l.length + 4)) (hlen : s.length = l.length + 4)
    (hbits : ∀ j, j < 8 * (l.length + 4) → bitAt s j = (bitAt (cseal l) j != (decide (at_ ≤ j ∧ j < at_ + 32) && v.testBit (j - at_)))) : copen s = ([], 12) := by
  unfold copen
  rw [if_neg (by omega), if_neg (burst l s at_ v hv h0 hat hlen hbits _)]

/-- one bit turned -/
def turn (l : List UInt8) (k : Nat) : List UInt8 := l.set (k / 8) (UInt8.ofNat ((l.getD (k / 8) 0).toNat ^^^ 2 ^ (k % 8)))
theorem turn_length (l : List UInt8) (k : Nat) : (turn l k).length = l.length := by simp [turn]
theorem turn_bit (l : List UInt8) (k j : Nat) (hk : k < 8 * l.length) : bitAt (turn l k) j = (bitAt l j != decide (j = k)) := by
  have hq : k / 8 < l.length := by omega
  have hx : ((l.getD (k / 8) 0).toNat ^^^ 2 ^ (k % 8)) < 2 ^ 8 := Nat.xor_lt_two_pow (by have := (l.getD (k / 8) 0).toNat_lt; omega) (Nat.pow_lt_pow_right (by decide) (by omega))
  unfold bitAt turn
  by_cases e : j / 8 = k / 8
  · rw [e]
    have h1 : (l.set (k / 8) (UInt8.ofNat ((l.getD (k / 8) 0).toNat ^^^ 2 ^ (k % 8)))).getD (k / 8) 0 = UInt8.ofNat ((l.getD (k / 8) 0).toNat ^^^ 2 ^ (k % 8)) := by
      simp [List.getD, hq]
    rw [h1, UInt8.toNat_ofNat', Nat.mod_eq_of_lt hx, Nat.testBit_xor, Nat.testBit_two_pow]
    have : decide (k % 8 = j % 8) = decide (j = k) := by
      by_cases h : j = k
      · subst h; simp
      · have : ¬ k % 8 = j % 8 := by omega
        simp [h, this]
    rw [this]
  · have h1 : (l.set (k / 8) (UInt8.ofNat ((l.getD (k / 8) 0).toNat ^^^ 2 ^ (k % 8)))).getD (j / 8) 0 = l.getD (j / 8) 0 := by
      simp only [List.getD, List.getElem?_set]
      rw [if_neg (fun h => e h.symm)]
    rw [h1]
    have : ¬ j = k := fun h => e (by rw [h])
    simp [this]

end Go.Proofs.YtbjoohafgkodcaaGreat
namespace Go.Proofs.YtbjoohafgkodcaaGreat
open Go Go.RowKit Go.Shelf

theorem bit_test (v i : Nat) : ((((v : Int) / 2 ^ i).tmod 2) == 1) = v.testBit i := by
  have h0 : (v : Int) / 2 ^ i = ((v / 2 ^ i : Nat) : Int) := by simp
  have h1 : ((v : Int) / 2 ^ i).tmod 2 = ((v / 2 ^ i % 2 : Nat) : Int) := by rw [h0]; rfl
  rw [h1, Nat.testBit_eq_decide_div_mod_eq]
  rcases Nat.mod_two_eq_zero_or_one (v / 2 ^ i) with h | h <;> simp [h]

theorem u8_turn (x r : Nat) (hx : x < 256) (hr : r < 8) : bits .xor .u8 (x : Int) (2 ^ r % 256) = ((UInt8.ofNat (x ^^^ 2 ^ r)).toNat : Int) := by
  have h2 : 2 ^ r < 256 := Nat.pow_lt_pow_right (m := r) (n := 8) (by decide) hr
  have e : ((2 : Int) ^ r % 256) = ((2 ^ r : Nat) : Int) := by
    have : ((2 ^ r : Nat) : Int) = (2 : Int) ^ r := by simp
    rw [← this]; exact Int.emod_eq_of_lt (Int.natCast_nonneg _) (Int.ofNat_lt.2 h2)
  have hx2 : x ^^^ 2 ^ r < 2 ^ 8 := Nat.xor_lt_two_pow (by omega) (by omega)
  rw [e, u8_xor_nat x (2 ^ r) hx h2, UInt8.toNat_ofNat', Nat.mod_eq_of_lt hx2]
theorem turned (l ls : List UInt8) (n k v N : Nat) (hK : n + k < 8 * ls.length) (hv : v.testBit k = true)
    (h : ∀ j, j < N → bitAt ls j = (bitAt l j != (decide (n ≤ j ∧ j < n + k) && v.testBit (j - n)))) :
    ∀ j, j < N → bitAt (turn ls (n + k)) j = (bitAt l j != (decide (n ≤ j ∧ j < n + (k + 1)) && v.testBit (j - n))) := by
  intro j hj
  rw [turn_bit ls _ j hK, h j hj]
  by_cases e : j = n + k
  · subst e
    rw [show decide (n ≤ n + k ∧ n + k < n + k) = false from decide_eq_false (by omega), show decide (n ≤ n + k ∧ n + k < n + (k + 1)) = true from decide_eq_true (by omega), show n + k - n = k by omega, hv]
    simp
  · have e2 : decide (n ≤ j ∧ j < n + (k + 1)) = decide (n ≤ j ∧ j < n + k) := by
      apply decide_eq_decide.2; constructor <;> intro h <;> omega
    rw [e2]
    simp [e]
theorem unturned (l ls : List UInt8) (n k v N : Nat) (hv : v.testBit k = false)
    (h : ∀ j, j < N → bitAt ls j = (bitAt l j != (decide (n ≤ j ∧ j < n + k) && v.testBit (j - n)))) :
    ∀ j, j < N → bitAt ls j = (bitAt l j != (decide (n ≤ j ∧ j < n + (k + 1)) && v.testBit (j - n))) := by
  intro j hj
  rw [h j hj]
  by_cases e : j = n + k
  · subst e
    rw [show decide (n ≤ n + k ∧ n + k < n + k) = false from decide_eq_false (by omega), show n + k - n = k by omega, hv]
    simp
  · have e2 : decide (n ≤ j ∧ j < n + (k + 1)) = decide (n ≤ j ∧ j < n + k) := by
      apply decide_eq_decide.2; constructor <;> intro h <;> omega
    rw [e2]

end Go.Proofs.YtbjoohafgkodcaaGreat
