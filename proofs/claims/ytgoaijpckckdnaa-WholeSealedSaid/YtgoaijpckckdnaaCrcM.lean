/- The checksum as plain mathematics: one step, the bits of bytes, linearity. No program in sight. -/
import Derived.Laws.BitsAllLaws
namespace Go.Proofs.Ytgoaijpckckdnaa

/-- what one bit does -/
def cstep (s : Nat) (bit : Bool) : Nat := if (s % 2 == 1) != bit then s / 2 ^^^ 3988292384 else s / 2
/-- k bits of a number, the lowest first -/
def lowBits : Nat → Nat → List Bool
  | 0, _ => []
  | k + 1, v => (v % 2 == 1) :: lowBits k (v / 2)
def bitsOf (l : List UInt8) : List Bool := l.flatMap fun x => lowBits 8 x.toNat
def crun (s : Nat) (bs : List Bool) : Nat := bs.foldl cstep s
def cfrom (s : Nat) (l : List UInt8) : Nat := crun s (bitsOf l)
def csum (l : List UInt8) : Nat := cfrom 4294967295 l ^^^ 4294967295

theorem crun_append (s : Nat) (a b : List Bool) : crun s (a ++ b) = crun (crun s a) b := by simp [crun]
theorem cfrom_nil (s : Nat) : cfrom s [] = s := rfl
theorem cfrom_append (s : Nat) (a b : List UInt8) : cfrom s (a ++ b) = cfrom (cfrom s a) b := by simp [cfrom, bitsOf, crun_append]
theorem cfrom_snoc (s : Nat) (a : List UInt8) (x : UInt8) : cfrom s (a ++ [x]) = crun (cfrom s a) (lowBits 8 x.toNat) := by
  rw [cfrom_append]; simp [cfrom, bitsOf]

theorem cstep_lt (s : Nat) (b : Bool) (h : s < 4294967296) : cstep s b < 4294967296 := by
  have h2 : s / 2 < 2 ^ 32 := by omega
  unfold cstep
  split
  · exact Nat.xor_lt_two_pow h2 (by decide)
  · omega
theorem crun_lt (bs : List Bool) : ∀ (s : Nat), s < 4294967296 → crun s bs < 4294967296 := by
  induction bs with
  | nil => intro s h; exact h
  | cons b bs ih => intro s h; exact ih _ (cstep_lt s b h)
theorem cfrom_lt (s : Nat) (l : List UInt8) (h : s < 4294967296) : cfrom s l < 4294967296 := crun_lt _ _ h
theorem csum_lt (l : List UInt8) : csum l < 4294967296 := Nat.xor_lt_two_pow (n := 32) (cfrom_lt _ _ (by decide)) (by decide)

theorem xor_half (a b : Nat) : (a ^^^ b) / 2 = a / 2 ^^^ b / 2 := by
  have h := Nat.shiftRight_xor_distrib (a := a) (b := b) (i := 1)
  simpa [Nat.shiftRight_eq_div_pow] using h
theorem xor_odd (a b : Nat) : ((a ^^^ b) % 2 == 1) = ((a % 2 == 1) != (b % 2 == 1)) := by
  have h := Nat.xor_mod_two_pow (a := a) (b := b) (n := 1)
  simp only [Nat.pow_one] at h
  rw [h]
  rcases Nat.mod_two_eq_zero_or_one a with ha | ha <;> rcases Nat.mod_two_eq_zero_or_one b with hb | hb <;> simp [ha, hb]

/-- a step is linear -/
theorem cstep_xor (a b : Nat) (x y : Bool) : cstep (a ^^^ b) (x != y) = cstep a x ^^^ cstep b y := by
  unfold cstep
  rw [xor_odd, xor_half]
  generalize (a % 2 == 1) = p
  generalize (b % 2 == 1) = q
  generalize a / 2 = u
  generalize b / 2 = v
  have h1 : u ^^^ 3988292384 ^^^ v = u ^^^ v ^^^ 3988292384 := by rw [Nat.xor_assoc, Nat.xor_comm 3988292384 v, ← Nat.xor_assoc]
  have h2 : u ^^^ (v ^^^ 3988292384) = u ^^^ v ^^^ 3988292384 := by rw [← Nat.xor_assoc]
  have h3 : u ^^^ 3988292384 ^^^ (v ^^^ 3988292384) = u ^^^ v := by
    rw [← Nat.xor_assoc, h1, Nat.xor_assoc, Nat.xor_self, Nat.xor_zero]
  cases p <;> cases q <;> cases x <;> cases y <;> simp [h1, h2, h3]
theorem crun_xor (bs cs : List Bool) : ∀ (a b : Nat), bs.length = cs.length → crun (a ^^^ b) (List.zipWith (· != ·) bs cs) = crun a bs ^^^ crun b cs := by
  induction bs generalizing cs with
  | nil => intro a b h; simp at h; have : cs = [] := List.eq_nil_of_length_eq_zero h.symm; subst this; rfl
  | cons x bs ih =>
    intro a b h
    cases cs with
    | nil => simp at h
    | cons y cs =>
      simp only [List.zipWith_cons_cons, crun, List.foldl_cons]
      rw [cstep_xor]
      exact ih cs _ _ (by simpa using h)
theorem lowBits_length (k v : Nat) : (lowBits k v).length = k := by
  induction k generalizing v with
  | zero => rfl
  | succ k ih => simp [lowBits, ih]
theorem lowBits_xor (k : Nat) : ∀ a b : Nat, lowBits k (a ^^^ b) = List.zipWith (· != ·) (lowBits k a) (lowBits k b) := by
  induction k with
  | zero => intro a b; rfl
  | succ k ih => intro a b; simp only [lowBits, List.zipWith_cons_cons]; rw [xor_odd, xor_half, ih]
theorem lowBits_zero (k : Nat) : lowBits k 0 = List.replicate k false := by
  induction k with
  | zero => rfl
  | succ k ih => simp [lowBits, ih, List.replicate_succ]
theorem zip_false (bs : List Bool) (k : Nat) (h : bs.length = k) : List.zipWith (· != ·) (List.replicate k false) bs = bs := by
  subst h
  induction bs with
  | nil => rfl
  | cons x bs ih => simp [List.replicate_succ, ih]

/-- feeding a number into a state is laying it over the state and feeding nothing -/
theorem crun_feed (k s v : Nat) (h : v < 2 ^ k) : crun s (lowBits k v) = crun (s ^^^ v) (List.replicate k false) := by
  induction k generalizing s v with
  | zero => simp at h; subst h; simp [lowBits, crun]
  | succ k ih =>
    simp only [lowBits, List.replicate_succ, crun, List.foldl_cons]
    have e : cstep (s ^^^ v) false = cstep s (v % 2 == 1) ^^^ v / 2 := by
      unfold cstep
      rw [xor_odd, xor_half]
      generalize (s % 2 == 1) = p
      generalize (v % 2 == 1) = q
      have h1 : s / 2 ^^^ 3988292384 ^^^ v / 2 = s / 2 ^^^ v / 2 ^^^ 3988292384 := by rw [Nat.xor_assoc, Nat.xor_comm 3988292384, ← Nat.xor_assoc]
      cases p <;> cases q <;> simp [h1]
    rw [e]
    exact ih _ _ (by rw [Nat.pow_succ] at h; omega)

/-- four steps without bits -/
def cnib (s : Nat) : Nat := crun s (List.replicate 4 false)
theorem cnib_xor (a b : Nat) : cnib (a ^^^ b) = cnib a ^^^ cnib b := by
  have h := crun_xor (List.replicate 4 false) (List.replicate 4 false) a b rfl
  exact h
theorem cnib_16 (q : Nat) : cnib (16 * q) = q := by
  have h : ∀ n, n % 2 = 0 → cstep n false = n / 2 := fun n hn => by unfold cstep; rw [hn]; rfl
  simp only [cnib, crun, List.replicate, List.foldl_cons, List.foldl_nil]
  rw [h (16 * q) (by omega), h (16 * q / 2) (by omega), h (16 * q / 2 / 2) (by omega), h (16 * q / 2 / 2 / 2) (by omega)]
  omega
theorem split16 (s : Nat) : 16 * (s / 16) ^^^ s % 16 = s := by
  have h : 16 * (s / 16) ^^^ s % 16 = 16 * (s / 16) + s % 16 := by
    have := Nat.two_pow_add_eq_or_of_lt (i := 4) (b := s % 16) (by omega) (s / 16)
    rw [show (2:Nat)^4 = 16 from rfl] at this
    rw [this]
    apply Nat.eq_of_testBit_eq
    intro i
    rw [Nat.testBit_xor, Nat.testBit_or]
    by_cases hi : i < 4
    · have : (16 * (s / 16)).testBit i = false := by
        rw [show 16 = 2 ^ 4 from rfl, Nat.testBit_two_pow_mul]; simp; omega
      rw [this]; simp
    · have : (s % 16).testBit i = false := Nat.testBit_lt_two_pow (Nat.lt_of_lt_of_le (show s % 16 < 2 ^ 4 by omega) (Nat.pow_le_pow_right (by decide) (by omega)))
      rw [this]; simp
  rw [h]; omega
/-- half a byte, by a table -/
theorem cnib_table (s p : Nat) (hp : p < 16) : crun s (lowBits 4 p) = s / 16 ^^^ cnib ((s ^^^ p) % 16) := by
  rw [crun_feed 4 s p hp]
  show cnib (s ^^^ p) = _
  have e := split16 (s ^^^ p)
  rw [← e, cnib_xor, cnib_16, e]
  congr 1
  have h := Nat.shiftRight_xor_distrib (a := s) (b := p) (i := 4)
  simp only [Nat.shiftRight_eq_div_pow] at h
  have hp' : p / 2 ^ 4 = 0 := by omega
  rw [hp', Nat.xor_zero] at h
  exact h
theorem lowBits_add (j k v : Nat) : lowBits (j + k) v = lowBits j v ++ lowBits k (v / 2 ^ j) := by
  induction j generalizing v with
  | zero => simp [lowBits]
  | succ j ih =>
    rw [show j + 1 + k = (j + k) + 1 by omega]
    simp only [lowBits, List.cons_append]
    rw [ih, Nat.div_div_eq_div_mul, Nat.pow_succ, Nat.mul_comm 2]
theorem lowBits_mod (k v : Nat) : lowBits k (v % 2 ^ k) = lowBits k v := by
  induction k generalizing v with
  | zero => rfl
  | succ k ih =>
    simp only [lowBits]
    have h1 : v % 2 ^ (k + 1) % 2 = v % 2 := by rw [Nat.pow_succ, Nat.mod_mul_left_mod]
    have h2 : v % 2 ^ (k + 1) / 2 = v / 2 % 2 ^ k := by rw [Nat.pow_succ, Nat.mul_comm, Nat.mod_mul_right_div_self]
    rw [h1, h2, ih]
/-- a byte, by two halves -/
theorem cbyte_halves (s : Nat) (x : Nat) : crun s (lowBits 8 x) = crun (crun s (lowBits 4 (x % 16))) (lowBits 4 (x / 16)) := by
  rw [show (8 : Nat) = 4 + 4 from rfl, lowBits_add, crun_append, show (16 : Nat) = 2 ^ 4 from rfl, lowBits_mod]

end Go.Proofs.Ytgoaijpckckdnaa
