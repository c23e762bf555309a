/- Package tag and rescriptref02: contracts. -/
import Derived.Test.YtcibhkiddeggmaaVar
namespace Go.Proofs.Ytcibhkiddeggmaa
open Go Go.RowKit Go.Shelf
attribute [local go_sem] Oper.semAt_some

def fitsB (n : Nat) : Bool := decide (1 ≤ n) && decide (n ≤ 536870911)
def widthN (w : Nat) : Nat := if w = 1 then 8 else if w = 5 then 4 else 0
set_option maxRecDepth 10000 in
theorem fits_any (n : Nat) (w : World) : Calls Try.prog 103 #[.int .u64 n] w fun e w' => e = .returned (.bool (fitsB n)) ∧ w = w' := by
  by_cases h1 : 1 ≤ n
  · by_cases h2 : n ≤ 536870911
    · have e : fitsB n = true := by simp [fitsB, h1, h2]
      have E := Lib.hid e
      clear e
      go_enter Try.func103, Try.ntmps103
      go_wp2
      go_ret
      exact ⟨ret_bool (by rw [E.out, decide_eq_true_eq]; omega), rfl⟩
    · have e : fitsB n = false := by simp [fitsB, h2]
      have E := Lib.hid e
      clear e
      go_enter Try.func103, Try.ntmps103
      go_wp2
      go_ret
      exact ⟨ret_bool (by rw [E.out, decide_eq_false_iff_not]; omega), rfl⟩
  · obtain rfl : n = 0 := by omega
    go_enter Try.func103, Try.ntmps103
    go_wp2
    go_ret
    exact ⟨rfl, rfl⟩
set_option maxRecDepth 10000 in
theorem width_any (x : Nat) (w : World) : Calls Try.prog 100 #[.int .u8 x] w fun e w' => e = .returned (.tuple #[.int .i64 (widthN x), .bool (wireB x)]) ∧ w = w' := by
  by_cases h1 : x = 1
  · subst h1
    go_enter Try.func100, Try.ntmps100
    go_wp2
    (try rw [Exit.noGoto_ret])
    go_ret2
    exact ⟨rfl, rfl⟩
  by_cases h2 : x = 5
  · subst h2
    go_enter Try.func100, Try.ntmps100
    go_wp2
    (try rw [Exit.noGoto_ret])
    go_ret2
    exact ⟨rfl, rfl⟩
  by_cases h3 : x = 0
  · subst h3
    go_enter Try.func100, Try.ntmps100
    go_wp2
    (try rw [Exit.noGoto_ret])
    go_ret2
    exact ⟨rfl, rfl⟩
  by_cases h4 : x = 2
  · subst h4
    go_enter Try.func100, Try.ntmps100
    go_wp2
    (try rw [Exit.noGoto_ret])
    go_ret2
    exact ⟨rfl, rfl⟩
  · have e1 : widthN x = 0 := by simp [widthN, h1, h2]
    have e2 : wireB x = false := by simp [wireB, h1, h2, h3, h4]
    rw [e1, e2]
    have a1 : ((x : Int) == 1) = false := by simp; omega
    have a2 : ((x : Int) == 5) = false := by simp; omega
    have a3 : ((x : Int) == 0) = false := by simp; omega
    have a4 : ((x : Int) == 2) = false := by simp; omega
    clear e1 e2 h1 h2 h3 h4
    go_enter Try.func100, Try.ntmps100
    go_wp2
    (try rw [Exit.noGoto_ret])
    go_ret2
    exact ⟨rfl, rfl⟩
theorem ret2_eq {k1 k2 : IntKind} {a1 a2 b1 b2 : Int} (h1 : a1 = b1) (h2 : a2 = b2) : Ending.returned (.tuple #[.int k1 a1, .int k2 a2]) = .returned (.tuple #[.int k1 b1, .int k2 b2]) := by rw [h1, h2]
set_option maxRecDepth 10000 in
set_option maxHeartbeats 1000000 in
theorem make_any (num : Int) (wire : Nat) (h1 : -9223372036854775808 ≤ num) (h2 : num ≤ 9223372036854775807) (hw : wire < 256) (w : World) :
    Calls Try.prog 84 #[.int .i64 num, .int .u8 wire] w fun e w' => e = .returned (.tuple #[.int .u64 (tmake num wire).1, .int .i64 (tmake num wire).2]) ∧ w = w' := by
  obtain ⟨R, hR⟩ : ∃ R, tmake num wire = R := ⟨_, rfl⟩
  rw [hR]
  unfold tmake at hR
  by_cases hn : num < 0
  · rw [if_pos (by omega)] at hR
    subst hR
    go_enter Try.func84, Try.ntmps84
    go_wp2
    go_ret2
    exact ⟨rfl, rfl⟩
  obtain ⟨n, rfl⟩ := Int.eq_ofNat_of_zero_le (by omega : 0 ≤ num)
  have hd : decide ((n : Int) < 0) = false := by simp
  by_cases hf : fitsB n = true
  · have hb : 1 ≤ n ∧ n ≤ 536870911 := by simpa [fitsB] using hf
    rw [if_neg (by omega)] at hR
    cases hwb : wireB wire with
    | true =>
      rw [if_neg (by simp [hwb])] at hR
      have HR := Lib.hid hR
      have hor : bits .or .u64 ((n : Int) * 8) (wire : Int) = ((8 * n + wire : Nat) : Int) := by
        have hlt : wire < 2 ^ 3 := by
          unfold wireB at hwb
          simp at hwb
          omega
        have h1 := or_add wire n 3 hlt
        have h2 := u64_or_nat (n * 8) wire (by omega) (by omega)
        push_cast at h2
        rw [Nat.or_comm] at h1
        simp only [Nat.reducePow] at h1
        rw [h2, h1]
        omega
      have HO := Lib.hid hor
      have HW := Lib.hid hwb
      clear hor hwb hR
      go_enter Try.func84, Try.ntmps84
      go_wp2_with (first | (go_at_call 103; refine (fits_any _ _).mono ?_; rintro e w' ⟨rfl, rfl⟩; rw [hf]) | (go_at_call 100; refine (width_any _ _).mono ?_; rintro e w' ⟨rfl, rfl⟩; rw [HW.out]))
      go_ret2
      rw [← HR.out]
      exact ⟨ret2_eq (by rw [HO.out]; simp) rfl, rfl⟩
    | false =>
      rw [if_pos hwb] at hR
      subst hR
      have HW := Lib.hid hwb
      clear hwb
      go_enter Try.func84, Try.ntmps84
      go_wp2_with (first | (go_at_call 103; refine (fits_any _ _).mono ?_; rintro e w' ⟨rfl, rfl⟩; rw [hf]) | (go_at_call 100; refine (width_any _ _).mono ?_; rintro e w' ⟨rfl, rfl⟩; rw [HW.out]))
      go_ret2
      exact ⟨rfl, rfl⟩
  · have hb : ¬ (1 ≤ n ∧ n ≤ 536870911) := by simpa [fitsB] using hf
    rw [if_pos (by omega)] at hR
    subst hR
    have hf' : fitsB n = false := by simpa using hf
    clear hf
    go_enter Try.func84, Try.ntmps84
    go_wp2_with (first | (go_at_call 103; refine (fits_any _ _).mono ?_; rintro e w' ⟨rfl, rfl⟩; rw [hf']))
    go_ret2
    exact ⟨rfl, rfl⟩
set_option maxRecDepth 10000 in
set_option maxHeartbeats 1000000 in
theorem split_any (n : Nat) (hn : n < 18446744073709551616) (w : World) :
    Calls Try.prog 98 #[.int .u64 n] w fun e w' => e = .returned (.tuple #[.int .i64 (tsplit n).1, .int .u8 (tsplit n).2.1, .int .i64 (tsplit n).2.2]) ∧ w = w' := by
  obtain ⟨R, hR⟩ : ∃ R, tsplit n = R := ⟨_, rfl⟩
  rw [hR]
  unfold tsplit at hR
  have hm : (0 : Int) ≤ (n : Int) % 8 ∧ (n : Int) % 8 < 8 := by omega
  have hq : (0 : Int) ≤ (n : Int) / 8 ∧ (n : Int) / 8 ≤ 2305843009213693951 := by omega
  have c1 : ((n : Int) / 8) = ((n / 8 : Nat) : Int) := by omega
  have c2 : ((n : Int) % 8) = ((n % 8 : Nat) : Int) := by omega
  have HC1 := Lib.hid c1
  have HC2 := Lib.hid c2
  clear c1 c2
  have kf := fun w => fits_any (n / 8) w
  have kw := fun w => width_any (n % 8) w
  simp only [← HC1.out, ← HC2.out] at kf kw
  have KF := Lib.hid kf
  have KW := Lib.hid kw
  clear kf kw
  by_cases hf : fitsB (n / 8) = true
  · have hb : 1 ≤ n / 8 ∧ n / 8 ≤ 536870911 := by simpa [fitsB] using hf
    have hq2 : (n : Int) / 8 ≤ 536870911 := by omega
    rw [if_neg (by omega)] at hR
    cases hwb : wireB (n % 8) with
    | true =>
      rw [if_neg (by simp [hwb])] at hR
      have HR := Lib.hid hR
      have HW := Lib.hid hwb
      have HF := Lib.hid hf
      clear hwb hR hf hb
      go_enter Try.func98, Try.ntmps98
      go_wp2_with (first | (go_at_call 103; refine (KF.out _).mono ?_; rintro e w' ⟨rfl, rfl⟩; rw [HF.out]) | (go_at_call 100; refine (KW.out _).mono ?_; rintro e w' ⟨rfl, rfl⟩; rw [HW.out]))
      go_ret3
      rw [← HR.out]
      exact ⟨ret3_eq HC1.out HC2.out rfl, rfl⟩
    | false =>
      rw [if_pos hwb] at hR
      subst hR
      have HW := Lib.hid hwb
      have HF := Lib.hid hf
      clear hwb hf hb
      go_enter Try.func98, Try.ntmps98
      go_wp2_with (first | (go_at_call 103; refine (KF.out _).mono ?_; rintro e w' ⟨rfl, rfl⟩; rw [HF.out]) | (go_at_call 100; refine (KW.out _).mono ?_; rintro e w' ⟨rfl, rfl⟩; rw [HW.out]))
      go_ret3
      exact ⟨rfl, rfl⟩
  · have hb : ¬ (1 ≤ n / 8 ∧ n / 8 ≤ 536870911) := by simpa [fitsB] using hf
    rw [if_pos (by omega)] at hR
    subst hR
    have hf' : fitsB (n / 8) = false := by simpa using hf
    have HF := Lib.hid hf'
    clear hf hf' hb
    go_enter Try.func98, Try.ntmps98
    go_wp2_with (first | (go_at_call 103; refine (KF.out _).mono ?_; rintro e w' ⟨rfl, rfl⟩; rw [HF.out]))
    go_ret3
    exact ⟨rfl, rfl⟩
theorem unfix_take (l : List UInt8) (k : Nat) (h : k < l.length) : unfix (l.take (k + 1)) = unfix (l.take k) + l[k].toNat * 256 ^ k := by
  rw [List.take_succ_eq_append_getElem h, unfix_snoc, List.length_take, Nat.min_eq_left (by omega)]
theorem unfix_take_lt (l : List UInt8) (k : Nat) (h : k ≤ l.length) : unfix (l.take k) < 256 ^ k := by
  have := unfix_lt (l.take k)
  rwa [List.length_take, Nat.min_eq_left h] at this
/-- the number of the first k bytes, or that there aren't as many -/
def tread (l : List UInt8) (k : Nat) : Nat × Nat := if l.length < k then (0, 4) else (unfix (l.take k), 0)
set_option maxRecDepth 100000 in
set_option maxHeartbeats 1000000 in
theorem read_any (l : List UInt8) (k : Nat) (hk : k ≤ 8) (v : Value) (w : World) (hb : Bs w v l) : Calls Try.prog 111 #[v, .int .i64 k] w fun e w' => e = .returned (.tuple #[.int .u64 (tread l k).1, .int .i64 (tread l k).2]) ∧ w = w' := by
  obtain ⟨a, c, rfl, h1, h2, -, hc⟩ := hb.open
  unfold maxLen at h2
  obtain ⟨R, hR⟩ : ∃ R, tread l k = R := ⟨_, rfl⟩
  rw [hR]
  unfold tread at hR
  by_cases hs : l.length < k
  · rw [if_pos hs] at hR
    subst hR
    clear hc
    go_enter Try.func111, Try.ntmps111
    go_wp2
    go_ret2
    exact ⟨rfl, rfl⟩
  · rw [if_neg hs] at hR
    have HR := Lib.hid hR
    clear hR
    have hkl : k ≤ l.length := by omega
    have hkc : k ≤ c := by omega
    go_enter Try.func111, Try.ntmps111
    go_wp2
    go_loop [6, 17] (fun n i => ∃ j : Nat, j ≤ k ∧ i = .int .i64 j ∧ n = .int .u64 (unfix (l.take j) : Nat)) (fun _ i => k - (intOf i).toNat)
    case atStart => exact ⟨0, by omega, rfl, rfl⟩
    case round =>
      obtain ⟨j, hj, rfl, rfl⟩ := hrel
      by_cases hlt : j < k
      · obtain ⟨b, off, rfl, hcell⟩ := hc (by omega)
        have c1 := hcell j _ (bv_get l j (by omega))
        have hx := l[j].toNat_lt
        have hu := unfix_take l j (by omega)
        have hul := unfix_take_lt l j (by omega)
        have he := eight_or l[j].toNat (unfix (l.take j)) j (by omega) hul (by omega)
        rw [← hu] at he
        obtain ⟨x, hxe⟩ : ∃ x, l[j].toNat = x := ⟨_, rfl⟩
        rw [hxe] at c1 hx he
        have HE := Lib.hid he
        obtain ⟨acc, hacc⟩ : ∃ acc, unfix (l.take j) = acc := ⟨_, rfl⟩
        rw [hacc] at HE ⊢
        clear hxe hc hcell he hu hul hacc
        go_wp2
        go_round
        case rel => exact ⟨j + 1, by omega, by go_num, by rw [HE.out]⟩
        case measure => simp [intOf]; omega
      · obtain rfl : j = k := by omega
        clear hc
        go_wp2
        go_ret2
        rw [← HR.out]
        exact ⟨rfl, rfl⟩
theorem tread_lt (l : List UInt8) (k : Nat) : (tread l k).1 < 256 ^ k := by
  unfold tread
  split
  · exact Nat.pow_pos (by decide)
  · exact unfix_take_lt l k (by omega)
set_option maxRecDepth 10000 in
theorem get64_any (l : List UInt8) (v : Value) (w : World) (hb : Bs w v l) : Calls Try.prog 99 #[v] w fun e w' => e = .returned (.tuple #[.int .u64 (tread l 8).1, .int .i64 (tread l 8).2]) ∧ w = w' := by
  have h := read_any l 8 (by omega) v w hb
  obtain ⟨⟨r1, r2⟩, hR⟩ : ∃ R, tread l 8 = R := ⟨_, rfl⟩
  rw [hR] at h ⊢
  rw [show ((8 : Nat) : Int) = 8 from rfl] at h
  have H := Lib.hid h
  clear h hR
  obtain ⟨a, c, rfl, -⟩ := hb.open
  go_enter Try.func99, Try.ntmps99
  go_wp2_with (go_at_call 111; refine H.out.mono ?_; rintro e w' ⟨rfl, rfl⟩)
  go_ret2
  exact ⟨rfl, rfl⟩
set_option maxRecDepth 10000 in
theorem get32_any (l : List UInt8) (v : Value) (w : World) (hb : Bs w v l) : Calls Try.prog 102 #[v] w fun e w' => e = .returned (.tuple #[.int .u32 (tread l 4).1, .int .i64 (tread l 4).2]) ∧ w = w' := by
  have h := read_any l 4 (by omega) v w hb
  have hlt := tread_lt l 4
  obtain ⟨⟨r1, r2⟩, hR⟩ : ∃ R, tread l 4 = R := ⟨_, rfl⟩
  rw [hR] at h hlt ⊢
  rw [show ((4 : Nat) : Int) = 4 from rfl] at h
  have hlt' : r1 ≤ 4294967295 := by simp at hlt; omega
  have H := Lib.hid h
  clear h hR hlt
  obtain ⟨a, c, rfl, -⟩ := hb.open
  go_enter Try.func102, Try.ntmps102
  go_wp2_with (go_at_call 111; refine H.out.mono ?_; rintro e w' ⟨rfl, rfl⟩)
  go_ret2
  exact ⟨rfl, rfl⟩
end Go.Proofs.Ytcibhkiddeggmaa
