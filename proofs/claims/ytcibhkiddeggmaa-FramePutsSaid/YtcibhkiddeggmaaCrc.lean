/- Contracts of package crc and of rescriptref07, as walks. ; The checksum as plain mathematics: one step, the bits of bytes, linearity. No program in sight. -/
import Derived.Laws.BitsAllLaws
import Derived.Test.YtcibhkiddeggmaaByt
namespace Go.Proofs.Ytcibhkiddeggmaa

/-- what one bit does -/
def cstep (s : Nat) (bit : Bool) : Nat := if (s % 2 == 1) != bit then s / 2 ^^^ 3988292384 else s / 2
/-- k bits of a number, the lowest first -/
def lowBits : Nat → Nat → List Bool
  | 0, _ => []
  | k + 1, v => (v % 2 == 1) :: lowBits k (v / 2)
def bitsOf (l : List UInt8) : List Bool := l.flatMap fun x => lowBits 8 x.toNat
def crun (s : Nat) (bs : List Bool) : Nat := bs.foldl cstep s
def cfrom (s : Nat) (l : List UInt8) : Nat := crun s (bitsOf l)
def csum (l : List UInt8) : Nat := cfrom 4294967295 l ^^^ 4294967295

theorem crun_append (s : Nat) (a b : List Bool) : crun s (a ++ b) = crun (crun s a) b := by simp [crun]
theorem cfrom_nil (s : Nat) : cfrom s [] = s := rfl
theorem cfrom_append (s : Nat) (a b : List UInt8) : cfrom s (a ++ b) = cfrom (cfrom s a) b := by simp [cfrom, bitsOf, crun_append]
theorem cfrom_snoc (s : Nat) (a : List UInt8) (x : UInt8) : cfrom s (a ++ [x]) = crun (cfrom s a) (lowBits 8 x.toNat) := by
  rw [cfrom_append]; simp [cfrom, bitsOf]

theorem cstep_lt (s : Nat) (b : Bool) (h : s < 4294967296) : cstep s b < 4294967296 := by
  have h2 : s / 2 < 2 ^ 32 := by omega
  unfold cstep
  split
  · exact Nat.xor_lt_two_pow h2 (by decide)
  · omega
theorem crun_lt (bs : List Bool) : ∀ (s : Nat), s < 4294967296 → crun s bs < 4294967296 := by
  induction bs with
  | nil => intro s h; exact h
  | cons b bs ih => intro s h; exact ih _ (cstep_lt s b h)
theorem cfrom_lt (s : Nat) (l : List UInt8) (h : s < 4294967296) : cfrom s l < 4294967296 := crun_lt _ _ h
theorem csum_lt (l : List UInt8) : csum l < 4294967296 := Nat.xor_lt_two_pow (n := 32) (cfrom_lt _ _ (by decide)) (by decide)

theorem xor_half (a b : Nat) : (a ^^^ b) / 2 = a / 2 ^^^ b / 2 := by
  have h := Nat.shiftRight_xor_distrib (a := a) (b := b) (i := 1)
  simpa [Nat.shiftRight_eq_div_pow] using h
theorem xor_odd (a b : Nat) : ((a ^^^ b) % 2 == 1) = ((a % 2 == 1) != (b % 2 == 1)) := by
  have h := Nat.xor_mod_two_pow (a := a) (b := b) (n := 1)
  simp only [Nat.pow_one] at h
  rw [h]
  rcases Nat.mod_two_eq_zero_or_one a with ha | ha <;> rcases Nat.mod_two_eq_zero_or_one b with hb | hb <;> simp [ha, hb]

/-- a step is linear -/
theorem cstep_xor (a b : Nat) (x y : Bool) : cstep (a ^^^ b) (x != y) = cstep a x ^^^ cstep b y := by
  unfold cstep
  rw [xor_odd, xor_half]
  generalize (a % 2 == 1) = p
  generalize (b % 2 == 1) = q
  generalize a / 2 = u
  generalize b / 2 = v
  have h1 : u ^^^ 3988292384 ^^^ v = u ^^^ v ^^^ 3988292384 := by rw [Nat.xor_assoc, Nat.xor_comm 3988292384 v, ← Nat.xor_assoc]
  have h2 : u ^^^ (v ^^^ 3988292384) = u ^^^ v ^^^ 3988292384 := by rw [← Nat.xor_assoc]
  have h3 : u ^^^ 3988292384 ^^^ (v ^^^ 3988292384) = u ^^^ v := by
    rw [← Nat.xor_assoc, h1, Nat.xor_assoc, Nat.xor_self, Nat.xor_zero]
  cases p <;> cases q <;> cases x <;> cases y <;> simp [h1, h2, h3]
theorem crun_xor (bs cs : List Bool) : ∀ (a b : Nat), bs.length = cs.length → crun (a ^^^ b) (List.zipWith (· != ·) bs cs) = crun a bs ^^^ crun b cs := by
  induction bs generalizing cs with
  | nil => intro a b h; simp at h; have : cs = [] := List.eq_nil_of_length_eq_zero h.symm; subst this; rfl
  | cons x bs ih =>
    intro a b h
    cases cs with
    | nil => simp at h
    | cons y cs =>
      simp only [List.zipWith_cons_cons, crun, List.foldl_cons]
      rw [cstep_xor]
      exact ih cs _ _ (by simpa using h)
theorem lowBits_length (k v : Nat) : (lowBits k v).length = k := by
  induction k generalizing v with
  | zero => rfl
  | succ k ih => simp [lowBits, ih]
theorem lowBits_xor (k : Nat) : ∀ a b : Nat, lowBits k (a ^^^ b) = List.zipWith (· != ·) (lowBits k a) (lowBits k b) := by
  induction k with
  | zero => intro a b; rfl
  | succ k ih => intro a b; simp only [lowBits, List.zipWith_cons_cons]; rw [xor_odd, xor_half, ih]
theorem lowBits_zero (k : Nat) : lowBits k 0 = List.replicate k false := by
  induction k with
  | zero => rfl
  | succ k ih => simp [lowBits, ih, List.replicate_succ]
theorem zip_false (bs : List Bool) (k : Nat) (h : bs.length = k) : List.zipWith (· != ·) (List.replicate k false) bs = bs := by
  subst h
  induction bs with
  | nil => rfl
  | cons x bs ih => simp [List.replicate_succ, ih]

/-- feeding a number into a state is laying it over the state and feeding nothing -/
theorem crun_feed (k s v : Nat) (h : v < 2 ^ k) : crun s (lowBits k v) = crun (s ^^^ v) (List.replicate k false) := by
  induction k generalizing s v with
  | zero => simp at h; subst h; simp [lowBits, crun]
  | succ k ih =>
    simp only [lowBits, List.replicate_succ, crun, List.foldl_cons]
    have e : cstep (s ^^^ v) false = cstep s (v % 2 == 1) ^^^ v / 2 := by
      unfold cstep
      rw [xor_odd, xor_half]
      generalize (s % 2 == 1) = p
      generalize (v % 2 == 1) = q
      have h1 : s / 2 ^^^ 3988292384 ^^^ v / 2 = s / 2 ^^^ v / 2 ^^^ 3988292384 := by rw [Nat.xor_assoc, Nat.xor_comm 3988292384, ← Nat.xor_assoc]
      cases p <;> cases q <;> simp [h1]
    rw [e]
    exact ih _ _ (by rw [Nat.pow_succ] at h; omega)

/-- four steps without bits -/
def cnib (s : Nat) : Nat := crun s (List.replicate 4 false)
theorem cnib_xor (a b : Nat) : cnib (a ^^^ b) = cnib a ^^^ cnib b := by
  have h := crun_xor (List.replicate 4 false) (List.replicate 4 false) a b rfl
  exact h
theorem cnib_16 (q : Nat) : cnib (16 * q) = q := by
  have h : ∀ n, n % 2 = 0 → cstep n false = n / 2 := fun n hn => by unfold cstep; rw [hn]; rfl
  simp only [cnib, crun, List.replicate, List.foldl_cons, List.foldl_nil]
  rw [h (16 * q) (by omega), h (16 * q / 2) (by omega), h (16 * q / 2 / 2) (by omega), h (16 * q / 2 / 2 / 2) (by omega)]
  omega
theorem split16 (s : Nat) : 16 * (s / 16) ^^^ s % 16 = s := by
  have h : 16 * (s / 16) ^^^ s % 16 = 16 * (s / 16) + s % 16 := by
    have := Nat.two_pow_add_eq_or_of_lt (i := 4) (b := s % 16) (by omega) (s / 16)
    rw [show (2:Nat)^4 = 16 from rfl] at this
    rw [this]
    apply Nat.eq_of_testBit_eq
    intro i
    rw [Nat.testBit_xor, Nat.testBit_or]
    by_cases hi : i < 4
    · have : (16 * (s / 16)).testBit i = false := by
        rw [show 16 = 2 ^ 4 from rfl, Nat.testBit_two_pow_mul]; simp; omega
      rw [this]; simp
    · have : (s % 16).testBit i = false := Nat.testBit_lt_two_pow (Nat.lt_of_lt_of_le (show s % 16 < 2 ^ 4 by omega) (Nat.pow_le_pow_right (by decide) (by omega)))
      rw [this]; simp
  rw [h]; omega
/-- half a byte, by a table -/
theorem cnib_table (s p : Nat) (hp : p < 16) : crun s (lowBits 4 p) = s / 16 ^^^ cnib ((s ^^^ p) % 16) := by
  rw [crun_feed 4 s p hp]
  show cnib (s ^^^ p) = _
  have e := split16 (s ^^^ p)
  rw [← e, cnib_xor, cnib_16, e]
  congr 1
  have h := Nat.shiftRight_xor_distrib (a := s) (b := p) (i := 4)
  simp only [Nat.shiftRight_eq_div_pow] at h
  have hp' : p / 2 ^ 4 = 0 := by omega
  rw [hp', Nat.xor_zero] at h
  exact h
theorem lowBits_add (j k v : Nat) : lowBits (j + k) v = lowBits j v ++ lowBits k (v / 2 ^ j) := by
  induction j generalizing v with
  | zero => simp [lowBits]
  | succ j ih =>
    rw [show j + 1 + k = (j + k) + 1 by omega]
    simp only [lowBits, List.cons_append]
    rw [ih, Nat.div_div_eq_div_mul, Nat.pow_succ, Nat.mul_comm 2]
theorem lowBits_mod (k v : Nat) : lowBits k (v % 2 ^ k) = lowBits k v := by
  induction k generalizing v with
  | zero => rfl
  | succ k ih =>
    simp only [lowBits]
    have h1 : v % 2 ^ (k + 1) % 2 = v % 2 := by rw [Nat.pow_succ, Nat.mod_mul_left_mod]
    have h2 : v % 2 ^ (k + 1) / 2 = v / 2 % 2 ^ k := by rw [Nat.pow_succ, Nat.mul_comm, Nat.mod_mul_right_div_self]
    rw [h1, h2, ih]
/-- a byte, by two halves -/
theorem cbyte_halves (s : Nat) (x : Nat) : crun s (lowBits 8 x) = crun (crun s (lowBits 4 (x % 16))) (lowBits 4 (x / 16)) := by
  rw [show (8 : Nat) = 4 + 4 from rfl, lowBits_add, crun_append, show (16 : Nat) = 2 ^ 4 from rfl, lowBits_mod]

end Go.Proofs.Ytcibhkiddeggmaa
namespace Go.Proofs.Ytcibhkiddeggmaa
open Go Go.RowKit Go.Shelf

theorem u32_and1 (s : Nat) (h : s < 4294967296) : bits .and .u32 (s : Int) 1 = (s : Int) % 2 := by
  have := u32_and_nat s 1 h (by decide)
  rw [nat_mask1] at this; rw [show ((1:Nat):Int) = 1 from rfl] at this; rw [this]; omega
theorem u32_poly (s : Nat) (h : s < 4294967296) : bits .xor .u32 (s : Int) 3988292384 = ((s ^^^ 3988292384 : Nat) : Int) := u32_xor_nat s 3988292384 h (by decide)
theorem odd_int (s : Nat) : ((s : Int) % 2 != 0) = (s % 2 == 1) := by
  rcases Nat.mod_two_eq_zero_or_one s with h | h
  · rw [show (s : Int) % 2 = 0 by omega, h]; rfl
  · rw [show (s : Int) % 2 = 1 by omega, h]; rfl

set_option maxHeartbeats 400000 in
theorem step_any (s : Nat) (bit : Bool) (w : World) (h : s < 4294967296) :
    Calls Try.prog 107 #[.int .u32 s, .bool bit] w fun e w' => e = .returned (.int .u32 (cstep s bit : Nat)) ∧ w = w' := by
  have h1 := u32_and1 s h
  have h2 := u32_poly (s / 2) (by omega)
  have h3 := odd_int s
  have h4 : ((s / 2 : Nat) : Int) = (s : Int) / 2 := by omega
  rw [h4] at h2
  by_cases hb : ((s % 2 == 1) == bit) = true
  · have hb' : (!((s % 2 == 1) == bit)) = false := by simp [hb]
    have e : cstep s bit = s / 2 := by unfold cstep; rw [show ((s % 2 == 1) != bit) = false from hb']; rfl
    have E := Lib.hid e
    clear e
    go_enter Try.func107, Try.ntmps107
    go_wp2
    go_ret
    exact ⟨ret_int (by rw [E.out]; simp), rfl⟩
  · have hb' : (!((s % 2 == 1) == bit)) = true := by simpa using hb
    have e : cstep s bit = s / 2 ^^^ 3988292384 := by unfold cstep; rw [show ((s % 2 == 1) != bit) = true from hb']; rfl
    have E := Lib.hid e
    clear e hb
    go_enter Try.func107, Try.ntmps107
    go_wp2
    go_ret
    exact ⟨ret_int (by rw [E.out]), rfl⟩

set_option maxHeartbeats 400000 in
theorem rstep_any (s : Nat) (bit : Bool) (w : World) (h : s < 4294967296) :
    Calls Try.prog 94 #[.int .u32 s, .bool bit] w fun e w' => e = .returned (.int .u32 (cstep s bit : Nat)) ∧ w = w' := by
  have h2 := u32_poly (s / 2) (by omega)
  have h4 : ((s / 2 : Nat) : Int) = (s : Int) / 2 := by omega
  rw [h4] at h2
  have h3 : (((s : Int) % 2) == 1) = (s % 2 == 1) := by
    rcases Nat.mod_two_eq_zero_or_one s with h | h
    · rw [show (s : Int) % 2 = 0 by omega, h]; rfl
    · rw [show (s : Int) % 2 = 1 by omega, h]; rfl
  by_cases hb : ((s % 2 == 1) == bit) = true
  · have hb' : (!((s % 2 == 1) == bit)) = false := by simp [hb]
    have e : cstep s bit = s / 2 := by unfold cstep; rw [show ((s % 2 == 1) != bit) = false from hb']; rfl
    have E := Lib.hid e
    clear e
    go_enter Try.func94, Try.ntmps94
    go_wp2
    go_ret
    exact ⟨ret_int (by rw [E.out]; simp), rfl⟩
  · have hb' : (!((s % 2 == 1) == bit)) = true := by simpa using hb
    have e : cstep s bit = s / 2 ^^^ 3988292384 := by unfold cstep; rw [show ((s % 2 == 1) != bit) = true from hb']; rfl
    have E := Lib.hid e
    clear e hb
    go_enter Try.func94, Try.ntmps94
    go_wp2
    go_ret
    exact ⟨ret_int (by rw [E.out]), rfl⟩

/-- the table of halves -/
def ctab : List Nat := (List.range 16).map cnib
theorem ctab_val : ctab = [0, 498536548, 997073096, 651767980, 1994146192, 1802195444, 1303535960, 1342533948, 3988292384, 4027552580, 3604390888, 3412177804, 2607071920, 2262029012, 2685067896, 3183342108] := by decide +kernel
theorem ctab_get (i : Nat) (h : i < 16) : ctab[i]? = some (cnib i) := by simp [ctab, h]
/-- as cells: the first k of them -/
def ctabV (k : Nat) : Array Value := ((List.range 16).map fun i => Value.int .u32 (if i < k then (cnib i : Int) else 0)).toArray
theorem ctabV_size (k : Nat) : (ctabV k).size = 16 := by simp [ctabV]
theorem ctabV_get (k i : Nat) (h : i < 16) : (ctabV k)[i]? = some (Value.int .u32 (if i < k then (cnib i : Int) else 0)) := by simp [ctabV, h]
theorem ctabV_set (k : Nat) (h : k < 16) : (ctabV k).setIfInBounds k (.int .u32 (cnib k : Int)) = ctabV (k + 1) := by
  apply Array.ext_getElem?
  intro i
  rw [Array.getElem?_setIfInBounds]
  by_cases hi : i < 16
  · rw [ctabV_get _ _ hi, ctabV_get _ _ hi]
    by_cases e : k = i
    · subst e; simp [ctabV_size, h]
    · rw [if_neg e]; simp only [Option.some.injEq, Value.int.injEq, true_and]
      by_cases e2 : i < k
      · rw [if_pos e2, if_pos (by omega)]
      · rw [if_neg e2, if_neg (by omega)]
  · have h1 : (ctabV k)[i]? = none := by simp [ctabV_size]; omega
    have h2 : (ctabV (k + 1))[i]? = none := by simp [ctabV_size]; omega
    rw [if_neg (by omega), h1, h2]
theorem ctabV_zero : ctabV 0 = #[.int .u32 0, .int .u32 0, .int .u32 0, .int .u32 0, .int .u32 0, .int .u32 0, .int .u32 0, .int .u32 0, .int .u32 0, .int .u32 0, .int .u32 0, .int .u32 0, .int .u32 0, .int .u32 0, .int .u32 0, .int .u32 0] := rfl
/-- k steps without bits -/
def cnibs (k s : Nat) : Nat := crun s (List.replicate k false)
theorem cnibs_succ (k s : Nat) : cnibs (k + 1) s = cstep (cnibs k s) false := by
  simp only [cnibs]; rw [List.replicate_succ', crun_append]; rfl
theorem cnibs_lt (k s : Nat) (h : s < 4294967296) : cnibs k s < 4294967296 := crun_lt _ _ h

set_option maxRecDepth 100000 in
set_option maxHeartbeats 1000000 in
theorem halves_any (w : World) : Calls Try.prog 92 #[] w fun e w' => e = .returned (.agg (ctabV 16)) ∧ Grew w w' := by
  go_enter Try.func92, Try.ntmps92
  go_wp2_with fail
  go_loopw [2, 3, 4] (fun _ _ i wr => ∃ k : Nat, k ≤ 16 ∧ i = .int .i64 k ∧ Blk wr w.heap.size 139 (ctabV 0) ∧ Blk wr (w.heap.size + 1) 139 (ctabV k) ∧ Grew w wr) (fun _ _ i _ => 16 - (intOf i).toNat)
  case atStart => exact ⟨0, by omega, rfl, (Blk.new _ _ _).alloc _, Blk.new2 w _ 139 (ctabV 0), ((Below.refl _ _).alloc (Nat.le_refl _) _).alloc (by simp) _⟩
  case round =>
    obtain ⟨k, hk, rfl, hb0, hb1, hg⟩ := hrel
    by_cases hlt : k < 16
    · have hd : decide ((k : Int) < 16) = true := by simp; omega
      go_wp2_with fail
      go_loop [3, 9] (fun s j => ∃ m : Nat, m ≤ 4 ∧ j = .int .i64 m ∧ s = .int .u32 (cnibs m k : Nat)) (fun _ j => 4 - (intOf j).toNat)
      case atStart => exact ⟨0, by omega, rfl, by simp [cnibs, crun]⟩
      case round =>
        obtain ⟨m, hm, rfl, rfl⟩ := hrel
        have hl := cnibs_lt m k (by omega)
        by_cases hlm : m < 4
        · go_wp2_with (go_at_call 107; refine (step_any _ false _ hl).mono ?_; rintro e w' ⟨rfl, rfl⟩)
          go_round
          case rel => exact ⟨m + 1, by omega, by go_num, by rw [cnibs_succ]⟩
          case measure => simp [intOf]; omega
        · obtain rfl : m = 4 := by omega
          have hc := hb1.cell k
          rw [ctabV_get _ _ hlt] at hc
          have hf := hb1.frozen k
          go_wp2_with fail
          go_roundw
          case rel => exact ⟨k + 1, by omega, by go_num, (hb0.other _ _ (by simp)), by rw [← ctabV_set k hlt]; exact hb1.set k _, grew_set hg (by omega) _⟩
          case measure => simp [intOf]; omega
    · obtain rfl : k = 16 := by omega
      go_wp2_with (first | (refine wpList_load_row rfl 139 _ rfl (w.heap.size + 1) rfl 139 (ctabV 16) (0, 0) _ hb1 Try.underlying139 rfl (by kernel_rfl) ?_) | (refine wpList_store_row rfl 139 _ _ rfl w.heap.size (ctabV 16) rfl rfl 139 (ctabV 0) hb0 (by kernel_rfl) (by rw [ctabV_size, ctabV_size]) (by kernel_rfl) ?_))
      refine bodyPost_ret (results_cell_row rfl _ _ w.heap.size 139 (ctabV 16) (0, 0) _ rfl (hb0.row _) Try.underlying139 rfl (by kernel_rfl)) rfl ⟨rfl, below_setRow hg (Nat.le_refl _) _⟩

/-- the halves of bytes -/
def nibs (l : List UInt8) : List Nat := l.flatMap fun x => [x.toNat % 16, x.toNat / 16]
theorem nibs_snoc (l : List UInt8) (x : UInt8) : nibs (l ++ [x]) = nibs l ++ [x.toNat % 16] ++ [x.toNat / 16] := by simp [nibs]
theorem byte_and15 (x : UInt8) : bits .and .u8 (x.toNat : Int) 15 = (x.toNat : Int) % 16 := by
  have h := u8_and_nat x.toNat 15 (by have := x.toNat_lt; omega) (by decide)
  rw [nat_mask4] at h; rw [show ((15:Nat):Int) = 15 from rfl] at h; rw [h]; omega
theorem nibs_append (a b : List UInt8) : nibs (a ++ b) = nibs a ++ nibs b := by simp [nibs]
theorem nibs_pre2 (l : List UInt8) (k : Nat) (h : k < l.length) : nibs (l.take k) ++ [l[k].toNat % 16] ++ [l[k].toNat / 16] <+: nibs l := by
  refine ⟨nibs (l.drop (k + 1)), ?_⟩
  rw [← nibs_snoc, ← List.take_succ_eq_append_getElem h, ← nibs_append, List.take_append_drop]
theorem nibs_pre1 (l : List UInt8) (k : Nat) (h : k < l.length) : nibs (l.take k) ++ [l[k].toNat % 16] <+: nibs l :=
  List.IsPrefix.trans (List.prefix_append _ _) (nibs_pre2 l k h)

set_option maxRecDepth 100000 in
set_option maxHeartbeats 2000000 in
/-- the iterator over halves -/
theorem parts_iter (l : List UInt8) (v : Value) (Bn n₀ : Nat) (w : World) (hn : n₀ ≤ w.heap.size) (hc : Blk w Bn 22 #[v]) (hs : ∀ w', Below n₀ w w' → Bs w' v l) :
    IterAll Try.prog 108 #[.pointer (some ⟨Bn, 0, none⟩)] (fun p : Nat => #[Value.int .u32 (p : Int)]) Eq (Below n₀) (fun pre x => pre ++ [x] <+: nibs l) (fun xs => xs = nibs l) w := by
  intro lp J W hW hJ hY h0
  have hc1 := (hc.grew hW).cell 0
  simp only [List.getElem?_toArray, List.getElem?_cons_zero] at hc1
  have hb0 : Bs W v l := (hs w (Below.refl _ _)).grew hW
  obtain ⟨a, cap, rfl, h1, h2, -, h4⟩ := hb0.open
  unfold maxLen at h2
  refine callsIn_of_wp Try.func108 rfl trivial ?_ rfl
  simp only [Try.ntmps108, List.size_toArray, List.length_cons, List.length_nil, Nat.reduceAdd, Nat.reduceSub, Array.replicate_succ, Array.replicate_zero, List.push_toArray, List.append_toArray, List.nil_append, List.cons_append]
  gi_wp2
  gi_loopw [7] (fun i wr => ∃ k : Nat, k ≤ l.length ∧ i = .int .i64 k ∧ J (nibs (l.take k)) wr ∧ Below n₀ W wr) (fun i _ => l.length - (intOf i).toNat)
  case atStart => exact ⟨0, Nat.zero_le _, rfl, h0, Below.refl _ _⟩
  case round =>
    obtain ⟨k, hk, rfl, hJ1, hB⟩ := hrel
    clear hJ
    by_cases hlt : k < l.length
    · have hb1 := hs wr ((hW.mono hn).trans hB)
      obtain ⟨a', cap', e, -, -, -, h4'⟩ := hb1.open
      cases e
      obtain ⟨b, off, rfl, hcell⟩ := h4' (by omega)
      have hc2 := hcell k _ (bv_get l k hlt)
      have hx := u8lt l[k]
      have ha := byte_and15 l[k]
      obtain ⟨fn, tmps, assign, body, hy, hR⟩ := hY _ (l[k].toNat % 16) wr hJ1 (nibs_pre1 l k hlt)
      push_cast at hy
      clear h4 h4' hcell hs hc hb0 hb1 hc1 h0 hW
      gi_wp2
      refine hR.mono ?_
      rintro e W3 ⟨rfl, hJ3, hk3⟩
      obtain ⟨fn2, tmps2, assign2, body2, hy2, hR2⟩ := hY _ (l[k].toNat / 16) W3 hJ3 (nibs_pre2 l k hlt)
      push_cast at hy2
      clear hy hR hJ1
      gi_wp2
      refine hR2.mono ?_
      rintro e W4 ⟨rfl, hJ4, hk4⟩
      clear hy2 hR2 hJ3
      gi_wp2
      go_roundw
      case rel => exact ⟨k + 1, by omega, by go_num, by rw [List.take_succ_eq_append_getElem hlt, nibs_snoc]; exact hJ4, (hB.trans hk3).trans hk4⟩
      case measure => simp [intOf]; omega
    · obtain rfl : k = l.length := by omega
      rw [List.take_length] at hJ1
      gi_wp2
      go_end0
      exact ⟨⟨_, rfl⟩, _, rfl, hJ1⟩

end Go.Proofs.Ytcibhkiddeggmaa
