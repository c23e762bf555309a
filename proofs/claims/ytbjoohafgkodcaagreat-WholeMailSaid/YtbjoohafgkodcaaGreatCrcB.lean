/- Contracts of package crc and of rescriptref07, as walks: the second part. ; Contracts of package crc and of rescriptref07, as walks. ; The checksum as plain mathematics: one step, the bits of bytes, linearity. No program in sight. -/
import Derived.Laws.BitsAllLaws
import Derived.Test.YtbjoohafgkodcaaGreatPay
namespace Go.Proofs.YtbjoohafgkodcaaGreat

/-- what one bit does -/
def cstep (s : Nat) (bit : Bool) : Nat := if (s % 2 == 1) != bit then s / 2 ^^^ 3988292384 else s / 2
/-- k bits of a number, the lowest first -/
def lowBits : Nat → Nat → List Bool
  | 0, _ => []
  | k + 1, v => (v % 2 == 1) :: lowBits k (v / 2)
def bitsOf (l : List UInt8) : List Bool := l.flatMap fun x => lowBits 8 x.toNat
def crun (s : Nat) (bs : List Bool) : Nat := bs.foldl cstep s
def cfrom (s : Nat) (l : List UInt8) : Nat := crun s (bitsOf l)
def csum (l : List UInt8) : Nat := cfrom 4294967295 l ^^^ 4294967295

theorem crun_append (s : Nat) (a b : List Bool) : crun s (a ++ b) = crun (crun s a) b := by simp [crun]
theorem cfrom_nil (s : Nat) : cfrom s [] = s := rfl
theorem cfrom_append (s : Nat) (a b : List UInt8) : cfrom s (a ++ b) = cfrom (cfrom s a) b := by simp [cfrom, bitsOf, crun_append]
theorem cfrom_snoc (s : Nat) (a : List UInt8) (x : UInt8) : cfrom s (a ++ [x]) = crun (cfrom s a) (lowBits 8 x.toNat) := by
  rw [cfrom_append]; simp [cfrom, bitsOf]

theorem cstep_lt (s : Nat) (b : Bool) (h : s < 4294967296) : cstep s b < 4294967296 := by
  have h2 : s / 2 < 2 ^ 32 := by omega
  unfold cstep
  split
  · exact Nat.xor_lt_two_pow h2 (by decide)
  · omega
theorem crun_lt (bs : List Bool) : ∀ (s : Nat), s < 4294967296 → crun s bs < 4294967296 := by
  induction bs with
  | nil => intro s h; exact h
  | cons b bs ih => intro s h; exact ih _ (cstep_lt s b h)
theorem cfrom_lt (s : Nat) (l : List UInt8) (h : s < 4294967296) : cfrom s l < 4294967296 := crun_lt _ _ h
theorem csum_lt (l : List UInt8) : csum l < 4294967296 := Nat.xor_lt_two_pow (n := 32) (cfrom_lt _ _ (by decide)) (by decide)

theorem xor_half (a b : Nat) : (a ^^^ b) / 2 = a / 2 ^^^ b / 2 := by
  have h := Nat.shiftRight_xor_distrib (a := a) (b := b) (i := 1)
  simpa [Nat.shiftRight_eq_div_pow] using h
theorem xor_odd (a b : Nat) : ((a ^^^ b) % 2 == 1) = ((a % 2 == 1) != (b % 2 == 1)) := by
  have h := Nat.xor_mod_two_pow (a := a) (b := b) (n := 1)
  simp only [Nat.pow_one] at h
  rw [h]
  rcases Nat.mod_two_eq_zero_or_one a with ha | ha <;> rcases Nat.mod_two_eq_zero_or_one b with hb | hb <;> simp [ha, hb]

/-- a step is linear -/
theorem cstep_xor (a b : Nat) (x y : Bool) : cstep (a ^^^ b) (x != y) = cstep a x ^^^ cstep b y := by
  unfold cstep
  rw [xor_odd, xor_half]
  generalize (a % 2 == 1) = p
  generalize (b % 2 == 1) = q
  generalize a / 2 = u
  generalize b / 2 = v
  have h1 : u ^^^ 3988292384 ^^^ v = u ^^^ v ^^^ 3988292384 := by rw [Nat.xor_assoc, Nat.xor_comm 3988292384 v, ← Nat.xor_assoc]
  have h2 : u ^^^ (v ^^^ 3988292384) = u ^^^ v ^^^ 3988292384 := by rw [← Nat.xor_assoc]
  have h3 : u ^^^ 3988292384 ^^^ (v ^^^ 3988292384) = u ^^^ v := by
    rw [← Nat.xor_assoc, h1, Nat.xor_assoc, Nat.xor_self, Nat.xor_zero]
  cases p <;> cases q <;> cases x <;> cases y <;> simp [h1, h2, h3]
theorem crun_xor (bs cs : List Bool) : ∀ (a b : Nat), bs.length = cs.length → crun (a ^^^ b) (List.zipWith (· != ·) bs cs) = crun a bs ^^^ crun b cs := by
  induction bs generalizing cs with
  | nil => intro a b h; simp at h; have : cs = [] := List.eq_nil_of_length_eq_zero h.symm; subst this; rfl
  | cons x bs ih =>
    intro a b h
    cases cs with
    | nil => simp at h
    | cons y cs =>
      simp only [List.zipWith_cons_cons, crun, List.foldl_cons]
      rw [cstep_xor]
      exact ih cs _ _ (by simpa using h)
theorem lowBits_length (k v : Nat) : (lowBits k v).length = k := by
  induction k generalizing v with
  | zero => rfl
  | succ k ih => simp [lowBits, ih]
theorem lowBits_xor (k : Nat) : ∀ a b : Nat, lowBits k (a ^^^ b) = List.zipWith (· != ·) (lowBits k a) (lowBits k b) := by
  induction k with
  | zero => intro a b; rfl
  | succ k ih => intro a b; simp only [lowBits, List.zipWith_cons_cons]; rw [xor_odd, xor_half, ih]
theorem lowBits_zero (k : Nat) : lowBits k 0 = List.replicate k false := by
  induction k with
  | zero => rfl
  | succ k ih => simp [lowBits, ih, List.replicate_succ]
theorem zip_false (bs : List Bool) (k : Nat) (h : bs.length = k) : List.zipWith (· != ·) (List.replicate k false) bs = bs := by
  subst h
  induction bs with
  | nil => rfl
  | cons x bs ih => simp [List.replicate_succ, ih]

/-- feeding a number into a state is laying it over the state and feeding nothing -/
theorem crun_feed (k s v : Nat) (h : v < 2 ^ k) : crun s (lowBits k v) = crun (s ^^^ v) (List.replicate k false) := by
  induction k generalizing s v with
  | zero => simp at h; subst h; simp [lowBits, crun]
  | succ k ih =>
    simp only [lowBits, List.replicate_succ, crun, List.foldl_cons]
    have e : cstep (s ^^^ v) false = cstep s (v % 2 == 1) ^^^ v / 2 := by
      unfold cstep
      rw [xor_odd, xor_half]
      generalize (s % 2 == 1) = p
      generalize (v % 2 == 1) = q
      have h1 : s / 2 ^^^ 3988292384 ^^^ v / 2 = s / 2 ^^^ v / 2 ^^^ 3988292384 := by rw [Nat.xor_assoc, Nat.xor_comm 3988292384, ← Nat.xor_assoc]
      cases p <;> cases q <;> simp [h1]
    rw [e]
    exact ih _ _ (by rw [Nat.pow_succ] at h; omega)

/-- four steps without bits -/
def cnib (s : Nat) : Nat := crun s (List.replicate 4 false)
theorem cnib_xor (a b : Nat) : cnib (a ^^^ b) = cnib a ^^^ cnib b := by
  have h := crun_xor (List.replicate 4 false) (List.replicate 4 false) a b rfl
  exact h
theorem cnib_16 (q : Nat) : cnib (16 * q) = q := by
  have h : ∀ n, n % 2 = 0 → cstep n false = n / 2 := fun n hn => by unfold cstep; rw [hn]; rfl
  simp only [cnib, crun, List.replicate, List.foldl_cons, List.foldl_nil]
  rw [h (16 * q) (by omega), h (16 * q / 2) (by omega), h (16 * q / 2 / 2) (by omega), h (16 * q / 2 / 2 / 2) (by omega)]
  omega
theorem split16 (s : Nat) : 16 * (s / 16) ^^^ s % 16 = s := by
  have h : 16 * (s / 16) ^^^ s % 16 = 16 * (s / 16) + s % 16 := by
    have := Nat.two_pow_add_eq_or_of_lt (i := 4) (b := s % 16) (by omega) (s / 16)
    rw [show (2:Nat)^4 = 16 from rfl] at this
    rw [this]
    apply Nat.eq_of_testBit_eq
    intro i
    rw [Nat.testBit_xor, Nat.testBit_or]
    by_cases hi : i < 4
    · have : (16 * (s / 16)).testBit i = false := by
        rw [show 16 = 2 ^ 4 from rfl, Nat.testBit_two_pow_mul]; simp; omega
      rw [this]; simp
    · have : (s % 16).testBit i = false := Nat.testBit_lt_two_pow (Nat.lt_of_lt_of_le (show s % 16 < 2 ^ 4 by omega) (Nat.pow_le_pow_right (by decide) (by omega)))
      rw [this]; simp
  rw [h]; omega
/-- half a byte, by a table -/
theorem cnib_table (s p : Nat) (hp : p < 16) : crun s (lowBits 4 p) = s / 16 ^^^ cnib ((s ^^^ p) % 16) := by
  rw [crun_feed 4 s p hp]
  show cnib (s ^^^ p) = _
  have e := split16 (s ^^^ p)
  rw [← e, cnib_xor, cnib_16, e]
  congr 1
  have h := Nat.shiftRight_xor_distrib (a := s) (b := p) (i := 4)
  simp only [Nat.shiftRight_eq_div_pow] at h
  have hp' : p / 2 ^ 4 = 0 := by omega
  rw [hp', Nat.xor_zero] at h
  exact h
theorem lowBits_add (j k v : Nat) : lowBits (j + k) v = lowBits j v ++ lowBits k (v / 2 ^ j) := by
  induction j generalizing v with
  | zero => simp [lowBits]
  | succ j ih =>
    rw [show j + 1 + k = (j + k) + 1 by omega]
    simp only [lowBits, List.cons_append]
    rw [ih, Nat.div_div_eq_div_mul, Nat.pow_succ, Nat.mul_comm 2]
theorem lowBits_mod (k v : Nat) : lowBits k (v % 2 ^ k) = lowBits k v := by
  induction k generalizing v with
  | zero => rfl
  | succ k ih =>
    simp only [lowBits]
    have h1 : v % 2 ^ (k + 1) % 2 = v % 2 := by rw [Nat.pow_succ, Nat.mod_mul_left_mod]
    have h2 : v % 2 ^ (k + 1) / 2 = v / 2 % 2 ^ k := by rw [Nat.pow_succ, Nat.mul_comm, Nat.mod_mul_right_div_self]
    rw [h1, h2, ih]
/-- a byte, by two halves -/
theorem cbyte_halves (s : Nat) (x : Nat) : crun s (lowBits 8 x) = crun (crun s (lowBits 4 (x % 16))) (lowBits 4 (x / 16)) := by
  rw [show (8 : Nat) = 4 + 4 from rfl, lowBits_add, crun_append, show (16 : Nat) = 2 ^ 4 from rfl, lowBits_mod]

end Go.Proofs.YtbjoohafgkodcaaGreat
namespace Go.Proofs.YtbjoohafgkodcaaGreat
open Go Go.RowKit Go.Shelf

theorem u32_and1 (s : Nat) (h : s < 4294967296) : bits .and .u32 (s : Int) 1 = (s : Int) % 2 := by
  have := u32_and_nat s 1 h (by decide)
  rw [nat_mask1] at this; rw [show ((1:Nat):Int) = 1 from rfl] at this; rw [this]; omega
theorem u32_poly (s : Nat) (h : s < 4294967296) : bits .xor .u32 (s : Int) 3988292384 = ((s ^^^ 3988292384 : Nat) : Int) := u32_xor_nat s 3988292384 h (by decide)
theorem odd_int (s : Nat) : ((s : Int) % 2 != 0) = (s % 2 == 1) := by
  rcases Nat.mod_two_eq_zero_or_one s with h | h
  · rw [show (s : Int) % 2 = 0 by omega, h]; rfl
  · rw [show (s : Int) % 2 = 1 by omega, h]; rfl

set_option maxHeartbeats 400000 in
theorem step_any (s : Nat) (bit : Bool) (w : World) (h : s < 4294967296) :
    Calls Tryz.prog 135 #[.int .u32 s, .bool bit] w fun e w' => e = .returned (.int .u32 (cstep s bit : Nat)) ∧ w = w' := by
  have h1 := u32_and1 s h
  have h2 := u32_poly (s / 2) (by omega)
  have h3 := odd_int s
  have h4 : ((s / 2 : Nat) : Int) = (s : Int) / 2 := by omega
  rw [h4] at h2
  by_cases hb : ((s % 2 == 1) == bit) = true
  · have hb' : (!((s % 2 == 1) == bit)) = false := by simp [hb]
    have e : cstep s bit = s / 2 := by unfold cstep; rw [show ((s % 2 == 1) != bit) = false from hb']; rfl
    have E := Lib.hid e
    clear e
    go_enter Tryz.func135, Tryz.ntmps135
    go_wp2
    go_ret
    exact ⟨ret_int (by rw [E.out]; simp), rfl⟩
  · have hb' : (!((s % 2 == 1) == bit)) = true := by simpa using hb
    have e : cstep s bit = s / 2 ^^^ 3988292384 := by unfold cstep; rw [show ((s % 2 == 1) != bit) = true from hb']; rfl
    have E := Lib.hid e
    clear e hb
    go_enter Tryz.func135, Tryz.ntmps135
    go_wp2
    go_ret
    exact ⟨ret_int (by rw [E.out]), rfl⟩


/-- the table of halves -/
def ctab : List Nat := (List.range 16).map cnib
theorem ctab_val : ctab = [0, 498536548, 997073096, 651767980, 1994146192, 1802195444, 1303535960, 1342533948, 3988292384, 4027552580, 3604390888, 3412177804, 2607071920, 2262029012, 2685067896, 3183342108] := by decide +kernel
theorem ctab_get (i : Nat) (h : i < 16) : ctab[i]? = some (cnib i) := by simp [ctab, h]
/-- as cells: the first k of them -/
def ctabV (k : Nat) : Array Value := ((List.range 16).map fun i => Value.int .u32 (if i < k then (cnib i : Int) else 0)).toArray
theorem ctabV_size (k : Nat) : (ctabV k).size = 16 := by simp [ctabV]
theorem ctabV_get (k i : Nat) (h : i < 16) : (ctabV k)[i]? = some (Value.int .u32 (if i < k then (cnib i : Int) else 0)) := by simp [ctabV, h]
theorem ctabV_set (k : Nat) (h : k < 16) : (ctabV k).setIfInBounds k (.int .u32 (cnib k : Int)) = ctabV (k + 1) := by
  apply Array.ext_getElem?
  intro i
  rw [Array.getElem?_setIfInBounds]
  by_cases hi : i < 16
  · rw [ctabV_get _ _ hi, ctabV_get _ _ hi]
    by_cases e : k = i
    · subst e; simp [ctabV_size, h]
    · rw [if_neg e]; simp only [Option.some.injEq, Value.int.injEq, true_and]
      by_cases e2 : i < k
      · rw [if_pos e2, if_pos (by omega)]
      · rw [if_neg e2, if_neg (by omega)]
  · have h1 : (ctabV k)[i]? = none := by simp [ctabV_size]; omega
    have h2 : (ctabV (k + 1))[i]? = none := by simp [ctabV_size]; omega
    rw [if_neg (by omega), h1, h2]
theorem ctabV_zero : ctabV 0 = #[.int .u32 0, .int .u32 0, .int .u32 0, .int .u32 0, .int .u32 0, .int .u32 0, .int .u32 0, .int .u32 0, .int .u32 0, .int .u32 0, .int .u32 0, .int .u32 0, .int .u32 0, .int .u32 0, .int .u32 0, .int .u32 0] := rfl
/-- k steps without bits -/
def cnibs (k s : Nat) : Nat := crun s (List.replicate k false)
theorem cnibs_succ (k s : Nat) : cnibs (k + 1) s = cstep (cnibs k s) false := by
  simp only [cnibs]; rw [List.replicate_succ', crun_append]; rfl
theorem cnibs_lt (k s : Nat) (h : s < 4294967296) : cnibs k s < 4294967296 := crun_lt _ _ h

set_option maxRecDepth 100000 in
set_option maxHeartbeats 1000000 in
theorem halves_any (w : World) : Calls Tryz.prog 122 #[] w fun e w' => e = .returned (.agg (ctabV 16)) ∧ Grew w w' := by
  go_enter Tryz.func122, Tryz.ntmps122
  go_wp2_with fail
  go_loopw [2, 3, 4] (fun _ _ i wr => ∃ k : Nat, k ≤ 16 ∧ i = .int .i64 k ∧ Blk wr w.heap.size 182 (ctabV 0) ∧ Blk wr (w.heap.size + 1) 182 (ctabV k) ∧ Grew w wr) (fun _ _ i _ => 16 - (intOf i).toNat)
  case atStart => exact ⟨0, by omega, rfl, (Blk.new _ _ _).alloc _, Blk.new2 w _ 182 (ctabV 0), ((Below.refl _ _).alloc (Nat.le_refl _) _).alloc (by simp) _⟩
  case round =>
    obtain ⟨k, hk, rfl, hb0, hb1, hg⟩ := hrel
    by_cases hlt : k < 16
    · have hd : decide ((k : Int) < 16) = true := by simp; omega
      go_wp2_with fail
      go_loop [3, 9] (fun s j => ∃ m : Nat, m ≤ 4 ∧ j = .int .i64 m ∧ s = .int .u32 (cnibs m k : Nat)) (fun _ j => 4 - (intOf j).toNat)
      case atStart => exact ⟨0, by omega, rfl, by simp [cnibs, crun]⟩
      case round =>
        obtain ⟨m, hm, rfl, rfl⟩ := hrel
        have hl := cnibs_lt m k (by omega)
        by_cases hlm : m < 4
        · go_wp2_with (go_at_call 135; refine (step_any _ false _ hl).mono ?_; rintro e w' ⟨rfl, rfl⟩)
          go_round
          case rel => exact ⟨m + 1, by omega, by go_num, by rw [cnibs_succ]⟩
          case measure => simp [intOf]; omega
        · obtain rfl : m = 4 := by omega
          have hc := hb1.cell k
          rw [ctabV_get _ _ hlt] at hc
          have hf := hb1.frozen k
          go_wp2_with fail
          go_roundw
          case rel => exact ⟨k + 1, by omega, by go_num, (hb0.other _ _ (by simp)), by rw [← ctabV_set k hlt]; exact hb1.set k _, grew_set hg (by omega) _⟩
          case measure => simp [intOf]; omega
    · obtain rfl : k = 16 := by omega
      go_wp2_with (first | (refine wpList_load_row rfl 182 _ rfl (w.heap.size + 1) rfl 182 (ctabV 16) (0, 0) _ hb1 Tryz.underlying182 rfl (by kernel_rfl) ?_) | (refine wpList_store_row rfl 182 _ _ rfl w.heap.size (ctabV 16) rfl rfl 182 (ctabV 0) hb0 (by kernel_rfl) (by rw [ctabV_size, ctabV_size]) (by kernel_rfl) ?_))
      refine bodyPost_ret (results_cell_row rfl _ _ w.heap.size 182 (ctabV 16) (0, 0) _ rfl (hb0.row _) Tryz.underlying182 rfl (by kernel_rfl)) rfl ⟨rfl, below_setRow hg (Nat.le_refl _) _⟩

/-- the halves of bytes -/
def nibs (l : List UInt8) : List Nat := l.flatMap fun x => [x.toNat % 16, x.toNat / 16]
theorem nibs_snoc (l : List UInt8) (x : UInt8) : nibs (l ++ [x]) = nibs l ++ [x.toNat % 16] ++ [x.toNat / 16] := by simp [nibs]
theorem byte_and15 (x : UInt8) : bits .and .u8 (x.toNat : Int) 15 = (x.toNat : Int) % 16 := by
  have h := u8_and_nat x.toNat 15 (by have := x.toNat_lt; omega) (by decide)
  rw [nat_mask4] at h; rw [show ((15:Nat):Int) = 15 from rfl] at h; rw [h]; omega
theorem nibs_append (a b : List UInt8) : nibs (a ++ b) = nibs a ++ nibs b := by simp [nibs]
theorem nibs_pre2 (l : List UInt8) (k : Nat) (h : k < l.length) : nibs (l.take k) ++ [l[k].toNat % 16] ++ [l[k].toNat / 16] <+: nibs l := by
  refine ⟨nibs (l.drop (k + 1)), ?_⟩
  rw [← nibs_snoc, ← List.take_succ_eq_append_getElem h, ← nibs_append, List.take_append_drop]
theorem nibs_pre1 (l : List UInt8) (k : Nat) (h : k < l.length) : nibs (l.take k) ++ [l[k].toNat % 16] <+: nibs l :=
  List.IsPrefix.trans (List.prefix_append _ _) (nibs_pre2 l k h)

set_option maxRecDepth 100000 in
set_option maxHeartbeats 2000000 in
/-- the iterator over halves -/
theorem parts_iter (l : List UInt8) (v : Value) (Bn n₀ : Nat) (w : World) (hn : n₀ ≤ w.heap.size) (hc : Blk w Bn 22 #[v]) (hs : ∀ w', Below n₀ w w' → Bs w' v l) :
    IterAll Tryz.prog 136 #[.pointer (some ⟨Bn, 0, none⟩)] (fun p : Nat => #[Value.int .u32 (p : Int)]) Eq (Below n₀) (fun pre x => pre ++ [x] <+: nibs l) (fun xs => xs = nibs l) w := by
  intro lp J W hW hJ hY h0
  have hc1 := (hc.grew hW).cell 0
  simp only [List.getElem?_toArray, List.getElem?_cons_zero] at hc1
  have hb0 : Bs W v l := (hs w (Below.refl _ _)).grew hW
  obtain ⟨a, cap, rfl, h1, h2, -, h4⟩ := hb0.open
  unfold maxLen at h2
  refine callsIn_of_wp Tryz.func136 rfl trivial ?_ rfl
  simp only [Tryz.ntmps136, List.size_toArray, List.length_cons, List.length_nil, Nat.reduceAdd, Nat.reduceSub, Array.replicate_succ, Array.replicate_zero, List.push_toArray, List.append_toArray, List.nil_append, List.cons_append]
  gi_wp2
  gi_loopw [7] (fun i wr => ∃ k : Nat, k ≤ l.length ∧ i = .int .i64 k ∧ J (nibs (l.take k)) wr ∧ Below n₀ W wr) (fun i _ => l.length - (intOf i).toNat)
  case atStart => exact ⟨0, Nat.zero_le _, rfl, h0, Below.refl _ _⟩
  case round =>
    obtain ⟨k, hk, rfl, hJ1, hB⟩ := hrel
    clear hJ
    by_cases hlt : k < l.length
    · have hb1 := hs wr ((hW.mono hn).trans hB)
      obtain ⟨a', cap', e, -, -, -, h4'⟩ := hb1.open
      cases e
      obtain ⟨b, off, rfl, hcell⟩ := h4' (by omega)
      have hc2 := hcell k _ (bv_get l k hlt)
      have hx := u8lt l[k]
      have ha := byte_and15 l[k]
      obtain ⟨fn, tmps, assign, body, hy, hR⟩ := hY _ (l[k].toNat % 16) wr hJ1 (nibs_pre1 l k hlt)
      push_cast at hy
      clear h4 h4' hcell hs hc hb0 hb1 hc1 h0 hW
      gi_wp2
      refine hR.mono ?_
      rintro e W3 ⟨rfl, hJ3, hk3⟩
      obtain ⟨fn2, tmps2, assign2, body2, hy2, hR2⟩ := hY _ (l[k].toNat / 16) W3 hJ3 (nibs_pre2 l k hlt)
      push_cast at hy2
      clear hy hR hJ1
      gi_wp2
      refine hR2.mono ?_
      rintro e W4 ⟨rfl, hJ4, hk4⟩
      clear hy2 hR2 hJ3
      gi_wp2
      go_roundw
      case rel => exact ⟨k + 1, by omega, by go_num, by rw [List.take_succ_eq_append_getElem hlt, nibs_snoc]; exact hJ4, (hB.trans hk3).trans hk4⟩
      case measure => simp [intOf]; omega
    · obtain rfl : k = l.length := by omega
      rw [List.take_length] at hJ1
      gi_wp2
      go_end0
      exact ⟨⟨_, rfl⟩, _, rfl, hJ1⟩

end Go.Proofs.YtbjoohafgkodcaaGreat
namespace Go.Proofs.YtbjoohafgkodcaaGreat
open Go Go.RowKit Go.Shelf
attribute [local go_sem] Oper.semAt_some

theorem parts_any (a : Option Addr) (n c : Nat) (w : World) : Calls Tryz.prog 123 #[.slice a n c] w fun e w' => e = .returned (.func (.func 136) #[] #[.pointer (some ⟨w.heap.size, 0, none⟩)]) ∧ w' = w.alloc (.cells #[.slice a n c] 22) := by
  go_enter Tryz.func123, Tryz.ntmps123
  go_wp2
  go_ret
  exact ⟨rfl, rfl⟩

/-- one half of a byte -/
def chalf (s p : Nat) : Nat := s / 16 ^^^ cnib ((s ^^^ p) % 16)
theorem chalf_run (s : Nat) (l : List UInt8) : (nibs l).foldl chalf s = cfrom s l := by
  induction l generalizing s with
  | nil => rfl
  | cons x l ih =>
    have hx := x.toNat_lt
    have e : nibs (x :: l) = [x.toNat % 16, x.toNat / 16] ++ nibs l := rfl
    rw [e, List.foldl_append, ih]
    simp only [List.foldl_cons, List.foldl_nil, chalf]
    rw [← cnib_table s _ (by omega), ← cnib_table _ _ (by omega), ← cbyte_halves]
    show _ = cfrom s ([x] ++ l)
    rw [cfrom_append]
    simp [cfrom, bitsOf]
theorem chalf_lt (s p : Nat) (hs : s < 4294967296) : chalf s p < 4294967296 :=
  Nat.xor_lt_two_pow (n := 32) (by omega) (crun_lt _ _ (by omega))
theorem chalfs_lt (ps : List Nat) : ∀ (s : Nat), s < 4294967296 → ps.foldl chalf s < 4294967296 := by
  induction ps with
  | nil => intro s h; exact h
  | cons p ps ih => intro s h; exact ih _ (chalf_lt s p h)
theorem u32_xorn (a b : Nat) (ha : a < 4294967296) (hb : b < 4294967296) : bits .xor .u32 (a : Int) (b : Int) = ((a ^^^ b : Nat) : Int) := u32_xor_nat a b ha hb
theorem u32_and15 (a : Nat) (ha : a < 4294967296) : bits .and .u32 (a : Int) 15 = ((a % 16 : Nat) : Int) := by
  have h := u32_and_nat a 15 ha (by decide)
  rw [nat_mask4] at h; exact h

theorem nibs_lt (l : List UInt8) (p : Nat) (h : p ∈ nibs l) : p < 16 := by
  obtain ⟨x, _, hx⟩ := List.mem_flatMap.1 h
  have := x.toNat_lt
  simp at hx
  omega

set_option maxRecDepth 100000 in
set_option maxHeartbeats 2000000 in
theorem from_any (s : Nat) (l : List UInt8) (v : Value) (w : World) (hs : s < 4294967296) (hb : Bs w v l) :
    Calls Tryz.prog 99 #[.int .u32 s, v] w fun e w' => e = .returned (.int .u32 (cfrom s l : Nat)) ∧ Grew w w' := by
  refine (callsIn_wide (n := 0)).1 (callsIn_of_wp_marks Tryz.func99 rfl trivial ?_ rfl)
  simp only [Tryz.ntmps99, List.size_toArray, List.length_cons, List.length_nil, Nat.reduceAdd, Nat.reduceSub, Array.replicate_succ, Array.replicate_zero, List.push_toArray, List.append_toArray, List.nil_append, List.cons_append]
  have hst := fun (W : World) => run_storeCells_new (P := Tryz.prog) W 182 (ctabV 0) (ctabV 16) (by kernel_rfl) rfl (by kernel_rfl)
  simp only [ctabV_zero] at hst
  have hsz : (ctabV 16).size = 16 := ctabV_size 16
  obtain ⟨a, cap, rfl, -⟩ := hb.open
  gi_wp2_with (first | (gi_at_call 122; refine (callsIn_wide.2 (halves_any _)).mono ?_; rintro e w1 ⟨rfl, hg1⟩) | (gi_at_call 123; refine (callsIn_wide.2 (parts_any _ _ _ _)).mono ?_; rintro e w2 ⟨rfl, rfl⟩))
  clear hst hsz
  have hg1' : Grew w w1 := ((Below.refl _ w).alloc (Nat.le_refl _) _).trans (hg1.mono (by simp))
  have hlt : w.heap.size < w1.heap.size := by have := hg1.size; simp at this; omega
  have k0 : Blk w1 w.heap.size 134 #[.int .u32 s] := (Blk.new _ _ _).grew hg1
  have k0' := (k0.alloc (.cells (ctabV 16) 182)).alloc (.cells #[.slice a l.length cap] 22)
  have k1 := (Blk.new w1 182 (ctabV 16)).alloc (.cells #[.slice a l.length cap] 22)
  have k2 := Blk.new2 w1 (.cells (ctabV 16) 182) 22 #[.slice a l.length cap]
  have hg2 : Grew w ((w1.alloc (.cells (ctabV 16) 182)).alloc (.cells #[.slice a l.length cap] 22)) := (hg1'.alloc hg1'.size _).alloc (by simp; omega) _
  refine wpIn_all (gf := 136) (lb := #[.pointer (some ⟨w1.heap.size + 1, 0, none⟩)]) rfl (enters_of Tryz.func136 (by kernel_rfl) rfl)
    (parts_iter l (.slice a l.length cap) (w1.heap.size + 1) w.heap.size _ (by simp; omega) k2 (fun w' h => hb.grew (Below.trans hg2 h)))
    (fun A B e => e ▸ KeepsOthers.refl _) (fun A B C D h1 h2 h3 => h1.kp h2 h3 (by simp; omega)) (fun _ => rfl)
    (fun pre W => Blk W w.heap.size 134 #[.int .u32 (pre.foldl chalf s : Nat)] ∧ Blk W w1.heap.size 182 (ctabV 16) ∧ Grew w W)
    (fun pre A B h e => e ▸ h) (fun pre A B h hc => ⟨hc.blk h.1, hc.blk h.2.1, hc.below h.2.2 (by simp; omega)⟩)
    ⟨k0', k1, hg2⟩ ?round ?done
  case round =>
    rintro lp pre p W ⟨h1, h2, h3⟩ hok
    gi_wp2
    refine ⟨trivial, ?_⟩
    rintro W2 hck hsz ⟨h1, h2, h3⟩
    have hl := chalfs_lt pre s hs
    have hp : p < 16 := nibs_lt l p (hok.subset (by simp))
    obtain ⟨S, hS⟩ : ∃ S, pre.foldl chalf s = S := ⟨_, rfl⟩
    rw [hS] at h1 hl
    have hS' := Lib.hid hS
    clear hS
    have hX : S ^^^ p < 4294967296 := Nat.xor_lt_two_pow (n := 32) hl (by omega)
    have c1 := h1.cell 0
    simp only [List.getElem?_toArray, List.getElem?_cons_zero] at c1
    have f1 := h1.frozen 0
    have x1 := u32_xorn S p hl (by omega)
    have x2 := u32_and15 (S ^^^ p) hX
    push_cast at x2
    have c2 := h2.cell ((S ^^^ p) % 16)
    rw [ctabV_get _ _ (by omega), if_pos (by omega)] at c2
    have x3 := u32_xorn (S / 16) (cnib ((S ^^^ p) % 16)) (by omega) (crun_lt _ _ (by omega))
    push_cast at x3
    have b1 : (0 : Int) ≤ (↑(S ^^^ p) : Int) % 16 ∧ (↑(S ^^^ p) : Int) % 16 < 16 := by omega
    have b2 : ((↑(S ^^^ p) : Int) % 16).toNat = (S ^^^ p) % 16 := by omega
    clear k0 k0' k1 k2 hok hck
    gi_wp2
    refine wpIn_region_tail (open_round _) ?_ 9 (by kernel_rfl) (by kernel_rfl) (by kernel_rfl) ?_
    · rintro ⟨_, _, h⟩
      exact h
    · simp only [List.take_succ_cons, List.take_zero, List.drop_succ_cons, List.drop_zero]
      repeat still_step
      refine wpStill_nil ?_
      go_wp2
      have e : (pre ++ [p]).foldl chalf s = chalf S p := by rw [List.foldl_append, hS'.out]; rfl
      refine ⟨(KeepsOthers.setCell _ _ _).trans (KeepsOthers.drew _), ((Below.refl _ _).setCell (p := ⟨w.heap.size, 0, none⟩) (Nat.le_refl _) _).drew, ?_, h2.other _ _ (by simp; omega), (grew_set h3 (Nat.le_refl _) _).drew⟩
      rw [e]
      exact h1.set 0 _
  case done =>
    rintro xs W rfl ⟨h1, h2, h3⟩ hD
    have c1 := h1.cell 0
    simp only [List.getElem?_toArray, List.getElem?_cons_zero] at c1
    rw [chalf_run] at c1
    clear k0 k0' k1 k2 h1 h2
    gi_wp2
    refine ⟨by simp, .inl ⟨_, _, rfl, run_takeDeferred hD, ?_⟩⟩
    exact ⟨_, results_tmp rfl _ _ _, rfl, Below.trans h3 (CK.toBelow (CK.putObj w.heap.size _ _ _ _ hD rfl (by simp; omega)) (Nat.le_refl _))⟩

theorem u32_not (s : Nat) (hs : s < 4294967296) : bits .xor .u32 IntKind.u32.max (s : Int) = ((s ^^^ 4294967295 : Nat) : Int) := by
  have h := u32_xor_nat 4294967295 s (by decide) hs
  rw [Nat.xor_comm] at h
  exact h

set_option maxHeartbeats 400000 in
theorem crcof_any (l : List UInt8) (v : Value) (w : World) (hb : Bs w v l) :
    Calls Tryz.prog 76 #[v] w fun e w' => e = .returned (.int .u32 (csum l : Nat)) ∧ Grew w w' := by
  have hn := u32_not _ (cfrom_lt 4294967295 l (by decide))
  have hc := from_any 4294967295 l v w (by decide) hb
  rw [show ((4294967295 : Nat) : Int) = 4294967295 from rfl] at hc
  have HC := Lib.hid hc
  clear hc
  go_enter Tryz.func76, Tryz.ntmps76
  go_wp2_with (go_at_call 99; refine HC.out.mono ?_; rintro e w1 ⟨rfl, hg1⟩)
  go_ret
  exact ⟨rfl, hg1⟩


/-! ### the reference -/
theorem bit_snoc (k : Nat) (_hk : k < 8) (x : Nat) : lowBits (k + 1) x = lowBits k x ++ [x / 2 ^ k % 2 == 1] := by
  rw [lowBits_add k 1]; simp [lowBits]

theorem odd_one (y : Nat) : (((y : Int) % 2) == 1) = (y % 2 == 1) := by
  rcases Nat.mod_two_eq_zero_or_one y with h | h
  · rw [show (y : Int) % 2 = 0 by omega, h]; rfl
  · rw [show (y : Int) % 2 = 1 by omega, h]; rfl



/-- the four bytes of a sum, the lowest first -/
def le32 (s : Nat) : List UInt8 := [UInt8.ofNat (s % 256), UInt8.ofNat (s / 256 % 256), UInt8.ofNat (s / 65536 % 256), UInt8.ofNat (s / 16777216)]
theorem le32_bv (s : Nat) (h : s < 4294967296) : bv (le32 s) = [Value.int .u8 ((s : Int) % 256), Value.int .u8 ((s : Int) / 256 % 256), Value.int .u8 ((s : Int) / 65536 % 256), Value.int .u8 ((s : Int) / 16777216)] := by
  have e : ∀ n : Nat, n < 256 → ((UInt8.ofNat n).toNat : Int) = (n : Int) := fun n hn => by
    rw [UInt8.toNat_ofNat']; omega
  simp only [bv, le32, List.map_cons, List.map_nil]
  rw [e (s % 256) (by omega), e (s / 256 % 256) (by omega), e (s / 65536 % 256) (by omega), e (s / 16777216) (by omega)]
  rw [show ((s % 256 : Nat) : Int) = (s : Int) % 256 by omega, show ((s / 256 % 256 : Nat) : Int) = (s : Int) / 256 % 256 by omega, show ((s / 65536 % 256 : Nat) : Int) = (s : Int) / 65536 % 256 by omega, show ((s / 16777216 : Nat) : Int) = (s : Int) / 16777216 by omega]
theorem le32_get (s k : Nat) (hs : s < 4294967296) (h : k < 4) : (le32 s)[k]? = some (UInt8.ofNat (s / 2 ^ (8 * k) % 256)) := by
  have : s / 16777216 % 256 = s / 16777216 := by omega
  match k, h with
  | 0, _ => simp [le32]
  | 1, _ => rfl
  | 2, _ => rfl
  | 3, _ => show some (UInt8.ofNat (s / 16777216)) = some (UInt8.ofNat (s / 16777216 % 256)); rw [this]
def cseal (l : List UInt8) : List UInt8 := l ++ le32 (csum l)


set_option maxHeartbeats 1000000 in
theorem seal_any (l : List UInt8) (v : Value) (w : World) (hb : Bs w v l) (hlen : l.length ≤ 1000000000) :
    Calls Tryz.prog 55 #[v] w fun e w' => ∃ v', e = .returned v' ∧ OwnB w' w.heap.size v' (cseal l) ∧ Grew w w' := by
  obtain ⟨S, hS⟩ : ∃ S, csum l = S := ⟨_, rfl⟩
  have hl := csum_lt l
  rw [hS] at hl
  have hc := crcof_any l v w hb
  rw [hS] at hc
  have HC := Lib.hid hc
  clear hc
  go_enter Tryz.func55, Tryz.ntmps55
  go_wp2_with fail
  refine HC.out.mono ?_
  rintro e w1 ⟨rfl, hg1⟩
  go_wp2_with fail
  refine (clone_any l _ _ (hb.grew hg1) (by omega)).mono ?_
  rintro e w2 ⟨v2, rfl, ho2, hg2⟩
  have hg2' : Grew w w2 := Grew.trans hg1 hg2
  go_wp2_with fail
  go_loopw [4, 10] (fun vv i wr => ∃ k : Nat, k ≤ 4 ∧ i = .int .i64 k ∧ OwnB wr w.heap.size vv (l ++ (le32 S).take k) ∧ Grew w wr) (fun _ i _ => 4 - (intOf i).toNat)
  case atStart => exact ⟨0, by omega, rfl, by simpa using own_mono ho2 hg1.size, hg2'⟩
  case round =>
    obtain ⟨k, hk, rfl, hown, hB⟩ := hrel
    by_cases hlt : k < 4
    · have hx : ((S : Int) / 2 ^ (8 * k)) % 256 = ((UInt8.ofNat (S / 2 ^ (8 * k) % 256)).toNat : Int) := by
        have h1 : ((S / 2 ^ (8 * k) % 256 : Nat) : Int) = (S : Int) / 2 ^ (8 * k) % 256 := by simp
        rw [← h1, UInt8.toNat_ofNat']; omega
      have hg := le32_get S k hl hlt
      have hlx : k < (le32 S).length := by simp [le32]; omega
      rw [List.getElem?_eq_getElem hlx, Option.some.injEq] at hg
      rw [← hg] at hx
      have hll : (le32 S).length = 4 := rfl
      clear hg
      go_wp2_with (at_builtin; refine wpList_push rfl _ _ rfl w.heap.size _ _ rfl (own_grew hown ((Below.refl _ _).alloc (Nat.le_refl _) _)) _ rfl [(le32 S)[k]] (Sl.one _ _ _ rfl) (by simp; omega) (by have := hB.size; simp; omega) ?_; intro v' w1 hown1 hB1 _)
      go_roundw
      case rel => exact ⟨k + 1, by omega, by go_num, by rw [List.take_succ_eq_append_getElem hlx, ← List.append_assoc]; exact hown1, (hB.alloc hB.size _).trans hB1⟩
      case measure => simp [intOf]; omega
    · obtain rfl : k = 4 := by omega
      go_wp2
      go_ret
      exact ⟨_, rfl, by unfold cseal; rw [hS]; exact hown, hB⟩

/-- the errors' numbers, and what Open gives -/
def copen (l : List UInt8) : List UInt8 × Int :=
  if l.length < 4 then ([], 4) else if cseal (l.take (l.length - 4)) = l then (l.take (l.length - 4), 0) else ([], 12)

set_option maxHeartbeats 1000000 in
theorem open_any (l : List UInt8) (v : Value) (w : World) (hb : Bs w v l) (hlen : l.length ≤ 1000000000) :
    Calls Tryz.prog 57 #[v] w fun e w' => ∃ v', e = .returned (.tuple #[v', .int .i64 (copen l).2]) ∧ OwnB w' w.heap.size v' (copen l).1 ∧ Grew w w' := by
  obtain ⟨a, cap, rfl, h1, h2, h3, h4⟩ := hb.open
  unfold maxLen at h2
  by_cases hs : l.length < 4
  · have hf : copen l = ([], 4) := by unfold copen; rw [if_pos hs]
    have HF := Lib.hid hf
    clear hf
    go_enter Tryz.func57, Tryz.ntmps57
    go_wp2
    go_ret2
    exact ⟨_, by rw [HF.out]; rfl, by rw [HF.out]; exact ownB_nil _ _, Below.refl _ _⟩
  · obtain ⟨d, hd⟩ : ∃ d, l.take (l.length - 4) = d := ⟨_, rfl⟩
    have hdl : d.length = l.length - 4 := by rw [← hd]; simp
    have hbd : Bs w (.slice a (l.length - 4) cap) d := by rw [← hd]; exact bs_take hb _ (by omega)
    have hn : ¬ ((l.length : Int) - 4 < 0) := by omega
    have hn2 : decide ((l.length : Int) - 4 < 0) = false := by simp; omega
    have HD := Lib.hid hdl
    clear hdl
    by_cases hq : cseal d = l
    · have hq2 : (cseal d == l) = true := by simp [hq]
      have hf : copen l = (d, 0) := by unfold copen; rw [if_neg hs, hd, if_pos hq]
      have HF := Lib.hid hf
      clear hf hq
      go_enter Tryz.func57, Tryz.ntmps57
      go_wp2_with fail
      refine (seal_any d _ _ hbd (by rw [HD.out]; omega)).mono ?_
      rintro e w1 ⟨v1, rfl, ho1, hg1⟩
      go_wp2_with fail
      refine (equal_any (cseal d) l _ _ _ (Sl.of_own ho1) (hb.grew hg1)).mono ?_
      rintro e w2 ⟨rfl, rfl⟩
      go_wp2_with fail
      refine (clone_any d _ _ (hbd.grew hg1) (by rw [HD.out]; omega)).mono ?_
      rintro e w3 ⟨v3, rfl, ho3, hg3⟩
      go_wp2
      go_ret2
      exact ⟨_, by rw [HF.out]; rfl, by rw [HF.out]; exact own_mono ho3 hg1.size, Grew.trans hg1 hg3⟩
    · have hq2 : (cseal d == l) = false := by simp [hq]
      have hf : copen l = ([], 12) := by unfold copen; rw [if_neg hs, hd, if_neg hq]
      have HF := Lib.hid hf
      clear hf hq
      go_enter Tryz.func57, Tryz.ntmps57
      go_wp2_with fail
      refine (seal_any d _ _ hbd (by rw [HD.out]; omega)).mono ?_
      rintro e w1 ⟨v1, rfl, ho1, hg1⟩
      go_wp2_with fail
      refine (equal_any (cseal d) l _ _ _ (Sl.of_own ho1) (hb.grew hg1)).mono ?_
      rintro e w2 ⟨rfl, rfl⟩
      go_wp2
      go_ret2
      exact ⟨_, by rw [HF.out]; rfl, by rw [HF.out]; exact ownB_nil _ _, hg1⟩

end Go.Proofs.YtbjoohafgkodcaaGreat
