/- CrcBurst, walked. -/
import Derived.Test.YtldmlpbbakmooaaCrcL
import Derived.Test.YtldmlpbbakmooaaCrcX
namespace Go.Proofs.Ytldmlpbbakmooaa
open Go Go.RowKit Go.Shelf

theorem bit_test (v i : Nat) : ((((v : Int) / 2 ^ i).tmod 2) == 1) = v.testBit i := by
  have h0 : (v : Int) / 2 ^ i = ((v / 2 ^ i : Nat) : Int) := by simp
  have h1 : ((v : Int) / 2 ^ i).tmod 2 = ((v / 2 ^ i % 2 : Nat) : Int) := by rw [h0]; rfl
  rw [h1, Nat.testBit_eq_decide_div_mod_eq]
  rcases Nat.mod_two_eq_zero_or_one (v / 2 ^ i) with h | h <;> simp [h]

theorem u8_turn (x r : Nat) (hx : x < 256) (hr : r < 8) : bits .xor .u8 (x : Int) (2 ^ r % 256) = ((UInt8.ofNat (x ^^^ 2 ^ r)).toNat : Int) := by
  have h2 : 2 ^ r < 256 := Nat.pow_lt_pow_right (m := r) (n := 8) (by decide) hr
  have e : ((2 : Int) ^ r % 256) = ((2 ^ r : Nat) : Int) := by
    have : ((2 ^ r : Nat) : Int) = (2 : Int) ^ r := by simp
    rw [← this]; exact Int.emod_eq_of_lt (Int.natCast_nonneg _) (Int.ofNat_lt.2 h2)
  have hx2 : x ^^^ 2 ^ r < 2 ^ 8 := Nat.xor_lt_two_pow (by omega) (by omega)
  rw [e, u8_xor_nat x (2 ^ r) hx h2, UInt8.toNat_ofNat', Nat.mod_eq_of_lt hx2]
theorem turned (l ls : List UInt8) (n k v N : Nat) (hK : n + k < 8 * ls.length) (hv : v.testBit k = true)
    (h : ∀ j, j < N → bitAt ls j = (bitAt l j != (decide (n ≤ j ∧ j < n + k) && v.testBit (j - n)))) :
    ∀ j, j < N → bitAt (turn ls (n + k)) j = (bitAt l j != (decide (n ≤ j ∧ j < n + (k + 1)) && v.testBit (j - n))) := by
  intro j hj
  rw [turn_bit ls _ j hK, h j hj]
  by_cases e : j = n + k
  · subst e
    rw [show decide (n ≤ n + k ∧ n + k < n + k) = false from decide_eq_false (by omega), show decide (n ≤ n + k ∧ n + k < n + (k + 1)) = true from decide_eq_true (by omega), show n + k - n = k by omega, hv]
    simp
  · have e2 : decide (n ≤ j ∧ j < n + (k + 1)) = decide (n ≤ j ∧ j < n + k) := by
      apply decide_eq_decide.2; constructor <;> intro h <;> omega
    rw [e2]
    simp [e]
theorem unturned (l ls : List UInt8) (n k v N : Nat) (hv : v.testBit k = false)
    (h : ∀ j, j < N → bitAt ls j = (bitAt l j != (decide (n ≤ j ∧ j < n + k) && v.testBit (j - n)))) :
    ∀ j, j < N → bitAt ls j = (bitAt l j != (decide (n ≤ j ∧ j < n + (k + 1)) && v.testBit (j - n))) := by
  intro j hj
  rw [h j hj]
  by_cases e : j = n + k
  · subst e
    rw [show decide (n ≤ n + k ∧ n + k < n + k) = false from decide_eq_false (by omega), show n + k - n = k by omega, hv]
    simp
  · have e2 : decide (n ≤ j ∧ j < n + (k + 1)) = decide (n ≤ j ∧ j < n + k) := by
      apply decide_eq_decide.2; constructor <;> intro h <;> omega
    rw [e2]

set_option maxHeartbeats 2000000 in
theorem crcBurst_any (l : List UInt8) (v : Value) (at_ : Int) (bs : Nat) (w : World) (hb : Bs w v l) (ha1 : -9223372036854775808 ≤ at_) (ha2 : at_ ≤ 9223372036854775807) (hbs : bs < 4294967296) :
    Calls Try.prog 5 #[v, .int .i64 at_, .int .u32 bs] w fun e w' => e = .returned (.bool true) ∧ Grew w w' := by
  have hb' := hb
  obtain ⟨a, c, rfl, hc1, hc2, -, -⟩ := hb.open
  clear hb
  unfold maxLen at hc2
  by_cases h1 : 2000 < l.length
  · go_enter Try.func5, Try.ntmps5
    go_wp2_with fail
    refine (live7_any _).mono ?_
    rintro e w1 ⟨rfl, hg1⟩
    go_wp2_with fail
    go_ret
    exact ⟨rfl, hg1⟩
  by_cases h2 : bs = 0
  · subst h2
    go_enter Try.func5, Try.ntmps5
    go_wp2_with fail
    refine (live7_any _).mono ?_
    rintro e w1 ⟨rfl, hg1⟩
    go_wp2_with fail
    go_ret
    exact ⟨rfl, hg1⟩
  have hz : ((bs : Int) == 0) = false := by rw [beq_eq_false_iff_ne]; omega
  have H2 := Lib.hid h2
  clear h2
  have hL : (cseal l).length = l.length + 4 := by simp [cseal, le32]
  have HL := Lib.hid hL
  clear hL
  by_cases h3 : at_ < 0
  · go_enter Try.func5, Try.ntmps5
    go_wp2_with fail
    refine (live7_any _).mono ?_
    rintro e w1 ⟨rfl, hg1⟩
    go_wp2_with fail
    refine (rseal_any l _ _ (hb'.grew hg1) (by omega)).mono ?_
    rintro e w2 ⟨v2, rfl, ho2, hg2⟩
    have hG2 : Grew w w2 := Grew.trans hg1 hg2
    obtain ⟨a2, c2, rfl⟩ := bs_len (Sl.of_own ho2)
    rw [HL.out] at ho2 ⊢
    go_wp2_with fail
    go_ret
    exact ⟨rfl, hG2⟩
  obtain ⟨n, rfl⟩ := Int.eq_ofNat_of_zero_le (show 0 ≤ at_ by omega)
  clear h3 ha1 ha2
  by_cases h4 : 8 * (l.length + 4) < n + 32
  · go_enter Try.func5, Try.ntmps5
    go_wp2_with fail
    refine (live7_any _).mono ?_
    rintro e w1 ⟨rfl, hg1⟩
    go_wp2_with fail
    refine (rseal_any l _ _ (hb'.grew hg1) (by omega)).mono ?_
    rintro e w2 ⟨v2, rfl, ho2, hg2⟩
    have hG2 : Grew w w2 := Grew.trans hg1 hg2
    obtain ⟨a2, c2, rfl⟩ := bs_len (Sl.of_own ho2)
    rw [HL.out] at ho2 ⊢
    go_wp2_with fail
    go_ret
    exact ⟨rfl, hG2⟩
  go_enter Try.func5, Try.ntmps5
  go_wp2_with fail
  refine (live7_any _).mono ?_
  rintro e w1 ⟨rfl, hg1⟩
  go_wp2_with fail
  refine (rseal_any l _ _ (hb'.grew hg1) (by omega)).mono ?_
  rintro e w2 ⟨v2, rfl, ho2, hg2⟩
  have hG2 : Grew w w2 := Grew.trans hg1 hg2
  have ho2' := own_mono (base' := w.heap.size) ho2 hg1.size
  clear ho2
  obtain ⟨g, cap, rfl⟩ : ∃ g cap, v2 = .slice (some ⟨g, 0, none⟩) (l.length + 4) cap := by
    rcases ho2'.2 with ⟨_, h0⟩ | ⟨g, cap, _, hv, _⟩
    · rw [HL.out] at h0; omega
    · exact ⟨g, cap, by rw [hv, HL.out]⟩
  have hd : decide ((8 * ((l.length : Int) + 4) - 32) < (n : Int)) = false := by simp; omega
  go_wp2_with fail
  go_loopw [8] (fun i wr => ∃ (k : Nat) (ls : List UInt8), k ≤ 32 ∧ i = .int .i64 k ∧ wr.ownsRow w.heap.size 5 1 (.slice (some ⟨g, 0, none⟩) (l.length + 4) cap) (l.length + 4) (bv ls) ∧ ls.length = l.length + 4 ∧ Grew w wr ∧
      Hid (∀ j, j < 8 * (l.length + 4) → bitAt ls j = (bitAt (cseal l) j != (decide (n ≤ j ∧ j < n + k) && bs.testBit (j - n))))) (fun i _ => 32 - (intOf i).toNat)
  case atStart => exact ⟨0, cseal l, by omega, rfl, by rw [← HL.out]; rw [← HL.out] at ho2'; exact ho2', HL.out, hG2, fun j _ => (by
    rw [show decide (n ≤ j ∧ j < n + 0) = false from decide_eq_false (by omega)]
    simp)⟩
  case round =>
    obtain ⟨k, ls, hk, rfl, hown, hll, hG, HB⟩ := hrel
    clear ho2' hb' hG2 hg1 hg2
    by_cases hlt : k < 32
    · have hbt := bit_test bs k
      have HLL := Lib.hid hll
      have hq : (n + k) / 8 < ls.length := by omega
      clear hll
      by_cases hbit : bs.testBit k = true
      · rw [hbit] at hbt
        have hx : (ls.getD ((n + k) / 8) 0).toNat < 256 := by have := (ls.getD ((n + k) / 8) 0).toNat_lt; omega
        have c1 : wr.cell? ⟨g, (n + k) / 8, none⟩ = some (.int .u8 ((ls.getD ((n + k) / 8) 0).toNat : Int)) := by
          rw [hown.cellAt _ (by omega), bv_get ls _ hq]; simp [List.getD, hq]
        have f1 := hown.frozenAt ((n + k) / 8)
        have HB1 := Lib.hid hbit
        clear hbit
        obtain ⟨x, hxx⟩ : ∃ x, (ls.getD ((n + k) / 8) 0).toNat = x := ⟨_, rfl⟩
        rw [hxx] at c1 hx
        have HX := Lib.hid hxx
        clear hxx
        have q0 : ((n : Int) + k).tdiv 8 = ((n : Int) + k) / 8 := Int.tdiv_eq_ediv_of_nonneg (by omega)
        have q1 : IntKind.i64.wrap (((n : Int) + k).tdiv 8) = ((n : Int) + k) / 8 := by rw [q0]; exact IntWalk.i64_in _ (by omega)
        have q2 : (0 : Int) ≤ ((n : Int) + k) / 8 := by omega
        have q3 : ((n : Int) + k) / 8 < (l.length : Int) + 4 := by omega
        have q4 : (((n : Int) + k) / 8).toNat = (n + k) / 8 := by omega
        have r0 : ((n : Int) + k).tmod 8 = ((n : Int) + k) % 8 := Int.tmod_eq_emod_of_nonneg (by omega)
        clear q0
        have s1 : (0 : Int) ≤ ((n : Int) + k) % 8 ∧ ((n : Int) + k) % 8 < 8 := by omega
        go_wp2_with fail
        refine wp_region_tail 10 (by kernel_rfl) (by kernel_rfl) ?_
        simp only [List.take_succ_cons, List.take_zero, List.drop_succ_cons, List.drop_zero]
        repeat still_step
        refine wpStill_nil ?_
        go_wp2
        go_roundw
        case rel =>
          refine ⟨k + 1, turn ls (n + k), by omega, by go_num, ?_, by rw [turn_length]; exact HLL.out, (grew_set hG (own_lt hown g rfl).1 _).drew, turned _ _ _ _ _ _ (by omega) HB1.out HB.out⟩
          have hs := (hown.stored ((n + k) / 8) (Value.int IntKind.u8 (bits BinOp.xor IntKind.u8 (↑x) (2 ^ ((n + k) % 8) % 256)))).1
          have e : bv (turn ls (n + k)) = (bv ls).set ((n + k) / 8) (Value.int IntKind.u8 (bits BinOp.xor IntKind.u8 (↑x) (2 ^ ((n + k) % 8) % 256))) := by
            rw [u8_turn x _ hx (by omega), ← HX.out]
            simp only [bv, turn, List.map_set]
          rw [e]
          exact hs
        case measure => simp [intOf]; omega
      · have hbit' : bs.testBit k = false := by simpa using hbit
        rw [hbit'] at hbt
        have HB1 := Lib.hid hbit'
        clear hbit hbit'
        go_wp2
        go_roundw
        case rel => exact ⟨k + 1, ls, by omega, by go_num, hown, HLL.out, hG, unturned _ _ _ _ _ _ HB1.out HB.out⟩
        case measure => simp [intOf]; omega
    · obtain rfl : k = 32 := by omega
      have ho := copen_burst l ls n bs hbs H2.out (by omega) hll HB.out
      have hbl : Bs wr (.slice (some ⟨g, 0, none⟩) (l.length + 4) cap) ls := by unfold Bs; rw [hll]; exact Sl.of_own hown
      have HO := Lib.hid ho
      clear ho hown
      go_wp2_with fail
      refine (open_any ls _ _ hbl (by omega)).mono ?_
      rintro e w3 ⟨v3, rfl, ho3, hg3⟩
      rw [HO.out] at ho3 ⊢
      obtain ⟨a3, c3, rfl⟩ := bs_len (Sl.of_own ho3)
      clear ho3 hbl
      go_wp2
      go_ret
      exact ⟨rfl, Grew.trans hG hg3⟩
end Go.Proofs.Ytldmlpbbakmooaa
