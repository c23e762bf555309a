/- FrameBurst: the walk. -/
import Derived.Test.YtcibhkiddeggmaaFc1
import Derived.Test.YtcibhkiddeggmaaCrcT
namespace Go.Proofs.Ytcibhkiddeggmaa
open Go Go.RowKit Go.Shelf

set_option maxRecDepth 100000 in
set_option maxHeartbeats 4000000 in
theorem fburst_walk (f : Frm) (u : Value) (at_ : Int) (bs : Nat) (w : World) (hu : Bs w u f.2) (ha1 : -9223372036854775808 ≤ at_) (ha2 : at_ ≤ 9223372036854775807) (hbs : bs < 4294967296) :
    Calls Try.prog 5 #[frV f.1 u, .int .i64 at_, .int .u32 bs] w fun e w' => e = .returned (.bool true) ∧ Grew w w' := by
  obtain ⟨au, cu, rfl⟩ := bs_len hu
  obtain ⟨W0, hW0⟩ : ∃ W0, W0 = w.alloc (.cells #[.int .u8 (f.1.toNat : Int), .slice au f.2.length cu] 24) := ⟨_, rfl⟩
  have g0 : Grew w W0 := by rw [hW0]; exact grew_alloc _ _
  have k0 : Blk W0 w.heap.size 24 #[.int .u8 (f.1.toNat : Int), .slice au f.2.length cu] := by rw [hW0]; exact Blk.new _ _ _
  have K0 := Lib.hid k0
  have G0 := Lib.hid g0
  have HU := Lib.hid hu
  clear k0 g0 hu
  go_enter Try.func5, Try.ntmps5
  go_wp2_with fail
  rw [← hW0]
  refine (live13_any _).mono ?_
  rintro e w1 ⟨rfl, g1⟩
  have K1 := Lib.hid (K0.out.grew g1)
  have G1 := Lib.hid (G0.out.trans g1)
  clear hW0 K0 G0 g1
  obtain ⟨x0, x1, -, -⟩ := cells2 K1.out
  by_cases hl : 2000 < f.2.length
  · have hd : decide ((f.2.length : Int) > 2000) = true := by simp; omega
    clear hl
    go_wp2
    go_ret
    exact ⟨rfl, G1.out⟩
  have hd : decide ((f.2.length : Int) > 2000) = false := by simp; omega
  by_cases hz0 : bs = 0
  · subst hz0
    clear hl
    go_wp2
    go_ret
    exact ⟨rfl, G1.out⟩
  have hz : ((bs : Int) == 0) = false := by rw [beq_eq_false_iff_ne]; omega
  have KR := Lib.hid (r13put_any f _ w1 (HU.out.grew G1.out) (by omega))
  have HF := fput_length f
  obtain ⟨LN, hLN⟩ : ∃ LN, LN = f.2.length + 9 := ⟨_, rfl⟩
  rw [← hLN] at HF
  have HBU := Lib.hid (fun ls n h1 h2 h3 h4 => fburst f ls n bs hbs hz0 (by omega) h1 h2 h3 h4)
  rw [← hLN] at HBU
  have HLN := Lib.hid (show LN ≤ 2009 by omega)
  obtain ⟨F, hF⟩ : ∃ F, F = fput f := ⟨_, rfl⟩
  rw [← hF] at KR HF HBU
  have HFL := Lib.hid HF
  clear hl hz0 hF hLN HF
  go_wp2_with fail
  refine KR.out.mono ?_
  rintro e w2 ⟨v2, rfl, ho2, g2⟩
  have hG2 := G1.out.trans g2
  have ho2' := own_mono (base' := w.heap.size) ho2 G1.out.size
  clear ho2
  obtain ⟨a2, c2, rfl⟩ := bs_len (Sl.of_own ho2')
  rw [HFL.out] at ho2' ⊢
  by_cases h40 : at_ < 40
  · have q1 : decide (at_ < 40) = true := by simpa using h40
    clear ho2' h40
    go_wp2
    go_ret
    exact ⟨rfl, hG2⟩
  have q1 : decide (at_ < 40) = false := by simpa using h40
  have hll := HLN.out
  have hw1 : IntKind.i64.wrap (8 * (LN : Int)) = 8 * (LN : Int) := by rw [IntKind.wrap_i64]; omega
  have hw2 : IntKind.i64.wrap (8 * (LN : Int) - 32) = 8 * (LN : Int) - 32 := by rw [IntKind.wrap_i64]; omega
  by_cases h8 : 8 * (LN : Int) - 32 < at_
  · have q2 : decide (at_ > 8 * (LN : Int) - 32) = true := by simpa using h8
    clear ho2' h40 h8 hll
    go_wp2
    go_ret
    exact ⟨rfl, hG2⟩
  have q2 : decide (at_ > 8 * (LN : Int) - 32) = false := by simpa using h8
  obtain ⟨n, rfl⟩ := Int.eq_ofNat_of_zero_le (show 0 ≤ at_ by omega)
  have hn40 : 40 ≤ n := by omega
  have hat : n + 32 ≤ 8 * LN := by omega
  have q3 : decide (8 * (LN : Int) - 32 < (n : Int)) = false := decide_eq_false (by omega)
  have q4 : decide (n < 40) = false := decide_eq_false (by omega)
  obtain ⟨g, cap, e2⟩ : ∃ g cap, (Value.slice a2 LN c2) = .slice (some ⟨g, 0, none⟩) LN cap := by
    rcases ho2'.2 with ⟨_, h0⟩ | ⟨g, cap, _, hv, _⟩
    · omega
    · exact ⟨g, cap, hv⟩
  rw [e2] at ho2' ⊢
  clear e2 h40 h8 ha1 ha2 a2 c2
  go_wp2_with fail
  go_loopw [8] (fun i wr => ∃ (k : Nat) (ls : List UInt8), k ≤ 32 ∧ i = .int .i64 k ∧ wr.ownsRow w.heap.size 5 1 (.slice (some ⟨g, 0, none⟩) LN cap) LN (bv ls) ∧ ls.length = LN ∧ Grew w wr ∧
      Hid (∀ j, j < 8 * LN → bitAt ls j = (bitAt F j != (decide (n ≤ j ∧ j < n + k) && bs.testBit (j - n))))) (fun i _ => 32 - (intOf i).toNat)
  case atStart => exact ⟨0, F, by omega, rfl, ho2', HFL.out, hG2, fun j _ => (by
    rw [show decide (n ≤ j ∧ j < n + 0) = false from decide_eq_false (by omega)]
    simp)⟩
  case round =>
    obtain ⟨k, ls, hk, rfl, hown, hll2, hG, HB⟩ := hrel
    clear ho2' hG2 g2 x0 x1
    by_cases hlt : k < 32
    · have hbt := bit_test bs k
      have HLL := Lib.hid hll2
      have hq : (n + k) / 8 < ls.length := by omega
      clear hll2
      by_cases hbit : bs.testBit k = true
      · rw [hbit] at hbt
        have hx : (ls.getD ((n + k) / 8) 0).toNat < 256 := by have := (ls.getD ((n + k) / 8) 0).toNat_lt; omega
        have c1 : wr.cell? ⟨g, (n + k) / 8, none⟩ = some (.int .u8 ((ls.getD ((n + k) / 8) 0).toNat : Int)) := by
          rw [hown.cellAt _ (by omega), bv_get ls _ hq]; simp [List.getD, hq]
        have f1 := hown.frozenAt ((n + k) / 8)
        have HB1 := Lib.hid hbit
        clear hbit
        obtain ⟨x, hxx⟩ : ∃ x, (ls.getD ((n + k) / 8) 0).toNat = x := ⟨_, rfl⟩
        rw [hxx] at c1 hx
        have HX := Lib.hid hxx
        clear hxx
        have q0 : ((n : Int) + k).tdiv 8 = ((n : Int) + k) / 8 := Int.tdiv_eq_ediv_of_nonneg (by omega)
        have qw : IntKind.i64.wrap ((n : Int) + k) = (n : Int) + k := by rw [IntKind.wrap_i64]; omega
        have q5 : IntKind.i64.wrap (((n : Int) + k).tdiv 8) = ((n : Int) + k) / 8 := by rw [q0]; exact IntWalk.i64_in _ (by omega)
        have q6 : (0 : Int) ≤ ((n : Int) + k) / 8 := by omega
        have q7 : ((n : Int) + k) / 8 < (LN : Int) := by have := HLL.out; omega
        have q8 : (((n : Int) + k) / 8).toNat = (n + k) / 8 := by omega
        have r0 : ((n : Int) + k).tmod 8 = ((n : Int) + k) % 8 := Int.tmod_eq_emod_of_nonneg (by omega)
        clear q0
        have s1 : (0 : Int) ≤ ((n : Int) + k) % 8 ∧ ((n : Int) + k) % 8 < 8 := by omega
        go_wp2_with fail
        refine wp_region_tail 10 (by kernel_rfl) (by kernel_rfl) ?_
        simp only [List.take_succ_cons, List.take_zero, List.drop_succ_cons, List.drop_zero]
        repeat still_step
        refine wpStill_nil ?_
        go_wp2
        go_roundw
        case rel =>
          refine ⟨k + 1, turn ls (n + k), by omega, by go_num, ?_, by rw [turn_length]; exact HLL.out, (grew_set hG (own_lt hown g rfl).1 _).drew, turned _ _ _ _ _ _ (by omega) HB1.out HB.out⟩
          have hs := (hown.stored ((n + k) / 8) (Value.int IntKind.u8 (bits BinOp.xor IntKind.u8 (↑x) (2 ^ ((n + k) % 8) % 256)))).1
          have e : bv (turn ls (n + k)) = (bv ls).set ((n + k) / 8) (Value.int IntKind.u8 (bits BinOp.xor IntKind.u8 (↑x) (2 ^ ((n + k) % 8) % 256))) := by
            rw [u8_turn x _ hx (by omega), ← HX.out]
            simp only [bv, turn, List.map_set]
          rw [e]
          exact hs
        case measure => simp [intOf]; omega
      · have hbit' : bs.testBit k = false := by simpa using hbit
        rw [hbit'] at hbt
        have HB1 := Lib.hid hbit'
        have qw : IntKind.i64.wrap ((n : Int) + k) = (n : Int) + k := by rw [IntKind.wrap_i64]; omega
        clear hbit hbit'
        go_wp2
        go_roundw
        case rel => exact ⟨k + 1, ls, by omega, by go_num, hown, HLL.out, hG, unturned _ _ _ _ _ _ HB1.out HB.out⟩
        case measure => simp [intOf]; omega
    · obtain rfl : k = 32 := by omega
      have ho := HBU.out ls n hn40 hat hll2 HB.out
      have hbl : Bs wr (.slice (some ⟨g, 0, none⟩) LN cap) ls := by unfold Bs; rw [hll2]; exact Sl.of_own hown
      have kr := fread_any ls _ wr hbl (by omega)
      rw [ho] at kr
      have KRD := Lib.hid kr
      have HGR := Lib.hid hG
      clear ho hown kr hbl hG
      go_wp2_with fail
      refine KRD.out.mono ?_
      rintro e w3 ⟨v3, rfl, hp3, g3⟩
      obtain ⟨a3, n3, c3, rfl, hn3⟩ := bs_shape hp3.1
      obtain ⟨wa, hwa⟩ : ∃ wa, wa = w3.alloc (.cells #[.int .u8 0, .slice a3 n3 c3] 24) := ⟨_, rfl⟩
      have ga : Grew w3 wa := by rw [hwa]; exact grew_alloc _ _
      have ka : Blk wa w3.heap.size 24 #[.int .u8 0, .slice a3 n3 c3] := by rw [hwa]; exact Blk.new _ _ _
      have G3 := Lib.hid ((HGR.out.trans g3).trans ga)
      have KSM := Lib.hid (frsame_any (0, []) (0, []) _ _ wa (hp3.1.grew ga) (bs_nil wa))
      rw [beq_self_eq_true] at KSM
      clear hp3 g3 ga
      have hty0 : ((0 : UInt8).toNat : Int) = 0 := rfl
      simp only [frV, hty0] at KSM
      go_upto_region 15 with (fail)
      try simp only [hty0]
      rw [← hwa]
      clear hwa
      obtain ⟨x0, x1, -, -⟩ := cells2 ka
      go_wp2_with fail
      refine KSM.out.mono ?_
      rintro e w4 ⟨rfl, g4⟩
      go_wp2
      go_ret
      exact ⟨rfl, G3.out.trans g4⟩
end Go.Proofs.Ytcibhkiddeggmaa
