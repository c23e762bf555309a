/- rescripttop.awakeSeal: contract; WholeSealed: the walk. -/
import Derived.Test.YtgoaijpckckdnaaSkF
import Derived.Test.YtgoaijpckckdnaaSkV
import Derived.Test.YtgoaijpckckdnaaSkB
import Derived.Test.YtgoaijpckckdnaaSchF
import Derived.Test.YtgoaijpckckdnaaCrcP
import Derived.Test.YtgoaijpckckdnaaCrcT
namespace Go.Proofs.Ytgoaijpckckdnaa
open Go Go.RowKit Go.Shelf
attribute [local go_sem] Oper.semAt_some

def awF : Fld := (1, 0, 5, [], 0)
theorem aw_p : putsF 0 [awF] = ([8, 5], 0, 0) := by decide +kernel
theorem aw_ok : awF.ok := ⟨by decide, by decide, by decide, by decide⟩
theorem aw_f : foundV ((rowsIn 1).find? (isField 1 1)) = #[.agg #[.int .i64 1, .int .i64 1, .int .i64 0], .bool true] := by kernel_rfl
theorem putsF_most : ∀ (fs : List Fld) (i : Nat), (∀ x ∈ fs, x.ok) → (putsF i fs).1.length ≤ fs.length * 8212
  | [], i, _ => by simp [putsF]
  | x :: fs, i, h => by
    have h1 := putF_len (h x (List.mem_cons_self ..))
    have h2 := putsF_most fs (i + 1) (fun y hy => h y (List.mem_cons_of_mem _ hy))
    rw [putsF_cons]
    split
    · simp
    split
    · simp
    · simp only [List.length_append, List.length_cons]; omega
set_option maxRecDepth 100000 in
set_option maxHeartbeats 4000000 in
theorem awakeSeal_any (w : World) : Calls Try.prog 52 #[] w fun e w' => e = .returned (.bool true) ∧ Grew w w' := by
  have ga := grew_alloc w (.cells #[.int .i64 1, .int .u8 0, .int .u64 5, .slice none 0 0, .int .i64 0] 39)
  have hfl : FlR (w.alloc (.cells #[.int .i64 1, .int .u8 0, .int .u64 5, .slice none 0 0, .int .i64 0] 39)) (.slice (some ⟨w.heap.size, 0, none⟩) 1 1) [((awF, .slice none 0 0) : FFV)] :=
    ⟨Sl.lit w 39 (0, 0) #[.int .i64 1, .int .u8 0, .int .u64 5, .slice none 0 0, .int .i64 0] 1 5 rfl (by unfold maxLen; omega), fun p hp => by
      obtain rfl := List.mem_singleton.1 hp
      exact Sl.nil _ _⟩
  have kp := skPut_any [((awF, .slice none 0 0) : FFV)] _ _ hfl (fun p hp => by obtain rfl := List.mem_singleton.1 hp; exact ⟨aw_ok, by decide⟩) (by simp)
  simp only [List.map_cons, List.map_nil, aw_p] at kp
  have KP := Lib.hid kp
  clear kp hfl
  go_enter Try.func52, Try.ntmps52
  go_wp2_with fail
  refine KP.out.mono ?_
  rintro e w1 ⟨v1, rfl, ho1, g1⟩
  obtain ⟨a1, n1, c1, rfl, hn1⟩ := bs_shape (Sl.of_own ho1)
  have h1 := grew_alloc w1 (.cells #[.int .i64 0, .int .i64 0] 27)
  have f1 := Blk.new w1 27 #[.int .i64 0, .int .i64 0]
  have hb1 := (Sl.of_own ho1).grew h1
  have HB1 := Lib.hid hb1
  clear ho1 hb1
  go_wp2_with fail
  refine (seal_any [8, 5] _ _ HB1.out (by decide)).mono ?_
  rintro e w2 ⟨v2, rfl, ho2, g2⟩
  obtain ⟨a2, n2, c2, rfl, hn2⟩ := bs_shape (Sl.of_own ho2)
  have HB2 := Lib.hid (Sl.of_own ho2)
  clear ho2
  go_wp2_with fail
  refine (open_any (cseal [8, 5]) _ _ HB2.out (by rw [cseal_length]; decide)).mono ?_
  rw [copen_cseal]
  rintro e w3 ⟨v3, rfl, ho3, g3⟩
  obtain ⟨a3, n3, c3, rfl, hn3⟩ := bs_shape (Sl.of_own ho3)
  have hn3' : n3 = 2 := hn3.out
  subst hn3'
  have G3 := (((ga.trans g1).trans h1).trans g2).trans g3
  have f3 := (f1.grew g2).grew g3
  clear ho3
  go_wp2_with fail
  refine (find_any 1 1 1 _).mono ?_
  rw [aw_f]
  rintro e w4 ⟨rfl, g4⟩
  go_upto_region 4 with (fail)
  obtain ⟨W5, hW5⟩ : ∃ W5, W5 = w4.alloc (.cells #[.int .i64 1, .int .i64 1, .int .i64 0] 63) := ⟨_, rfl⟩
  rw [← hW5]
  have g5 : Grew w4 W5 := by rw [hW5]; exact grew_alloc _ _
  have b5 : Blk W5 w4.heap.size 63 #[.int .i64 1, .int .i64 1, .int .i64 0] := by rw [hW5]; exact Blk.new _ _ _
  have f5 := (f3.grew g4).grew g5
  obtain ⟨e0, e1, -⟩ := cells_of f5
  have e2 := b5.cell 1
  simp only [List.getElem?_toArray, List.getElem?_cons_zero, List.getElem?_cons_succ] at e2
  clear hW5 b5 f5 f3 f1
  go_wp2
  go_ret
  exact ⟨rfl, (G3.trans g4).trans g5⟩
set_option maxRecDepth 100000 in
set_option maxHeartbeats 8000000 in
theorem wsealed_walk (A : List FFV) (v : Value) (at_ : Int) (bs : Nat) (w : World) (hb : FlR w v A ∧ ∀ x ∈ A, x.1.ok) (ha1 : -9223372036854775808 ≤ at_) (ha2 : at_ ≤ 9223372036854775807) (hbs : bs < 4294967296) :
    Calls Try.prog 13 #[v, .int .i64 at_, .int .u32 bs] w fun e w' => e = .returned (.bool true) ∧ Grew w w' := by
  obtain ⟨hA, hok⟩ := hb
  obtain ⟨a, c, rfl, hc1, hc2, -, h4⟩ := hA.1.open
  unfold maxLen at hc2
  have HA := Lib.hid hA
  have H4 := Lib.hid h4
  clear hA h4
  go_enter Try.func13, Try.ntmps13
  go_wp2_with fail
  refine (awakeSeal_any w).mono ?_
  rintro e w1 ⟨rfl, g1⟩
  by_cases hl : 20 < A.length
  · have hd : decide ((A.length : Int) > 20) = true := by simp; omega
    clear hl
    go_wp2
    go_ret
    exact ⟨rfl, g1⟩
  have hd : decide ((A.length : Int) > 20) = false := by simp; omega
  have hl20 : A.length ≤ 20 := by omega
  clear hl
  go_wp2
  go_loop [7] (fun i => ∃ k : Nat, k ≤ A.length ∧ i = .int .i64 k ∧ RowKit.Hid (∀ x ∈ A.take k, (fB x.1).length ≤ 100)) (fun i => A.length - (intOf i).toNat)
  case atStart => exact ⟨0, Nat.zero_le _, rfl, Lib.hid (fun x hx => by simp at hx)⟩
  case round =>
    obtain ⟨k, hk, rfl, hI⟩ := hrel
    by_cases hlt : k < A.length
    · obtain ⟨b, o, rfl, -⟩ := H4.out (by omega)
      obtain ⟨-, -, -, x1, -, x2⟩ := fl_cells (HA.out.grew g1) k hlt
      obtain ⟨ua, un, uc, e, hun⟩ := bs_shape x2
      rw [e] at x1
      have hun' := hun.out
      have hs := List.take_succ_eq_append_getElem hlt
      have HS := Lib.hid hs
      have HUN := Lib.hid hun'
      clear hs e x2 hun hun'
      by_cases e : 100 < un
      · have q1 : decide ((un : Int) > 100) = true := by simp; omega
        clear e
        go_wp2
        go_ret
        exact ⟨rfl, g1⟩
      · have q1 : decide ((un : Int) > 100) = false := by simp; omega
        have HE := Lib.hid e
        clear e
        go_wp2
        go_round
        case rel =>
          refine ⟨k + 1, by omega, by go_num, Lib.hid (fun x hx => ?_)⟩
          rw [HS.out] at hx
          rcases List.mem_append.1 hx with hx | hx
          · exact hI.out x hx
          · obtain rfl := List.mem_singleton.1 hx
            have := HUN.out; have := HE.out; omega
        case measure => simp [intOf]; omega
    · obtain rfl : k = A.length := by omega
      have hbs8 : ∀ x ∈ A, (fB x.1).length ≤ 100 := by have := hI.out; rwa [List.take_length] at this
      have hokm : ∀ x ∈ A.map (·.1), x.ok := fun x hx => by obtain ⟨p, hp, rfl⟩ := List.mem_map.1 hx; exact hok p hp
      have HP := Lib.hid (fieldsAt_put (A.map (·.1)) (putsF 0 (A.map (·.1))).1 0 0 hokm)
      have HE0 := Lib.hid (putsF_ok (A.map (·.1)) 0)
      have HE1 := Lib.hid (putsF_err (A.map (·.1)) 0)
      have HLP := Lib.hid (show (putsF 0 (A.map (·.1))).1.length ≤ 200000 by have := putsF_most (A.map (·.1)) 0 hokm; rw [List.length_map] at this; omega)
      have kp := skPut_any A _ w1 (HA.out.grew g1) (fun p hp => ⟨hok p hp, by have := hbs8 p hp; omega⟩) (by omega)
      obtain ⟨P, hP⟩ : ∃ P, P = putsF 0 (A.map (·.1)) := ⟨_, rfl⟩
      rw [← hP] at kp HP HE0 HE1 HLP
      have KP := Lib.hid kp
      clear kp hP hbs8 hokm hok hI
      go_wp2_with fail
      refine KP.out.mono ?_
      rintro e w2 ⟨v2, rfl, ho2, g2⟩
      obtain ⟨a2, n2, c2, rfl, hn2⟩ := bs_shape (Sl.of_own ho2)
      have f2 := Blk.new w2 27 #[.int .i64 (P.2.1 : Nat), .int .i64 (P.2.2 : Nat)]
      have h2 := grew_alloc w2 (.cells #[.int .i64 (P.2.1 : Nat), .int .i64 (P.2.2 : Nat)] 27)
      have HB2 := Lib.hid ((Sl.of_own ho2).grew h2)
      clear ho2
      go_wp2_with fail
      refine (seal_any P.1 _ _ HB2.out (by have := HLP.out; omega)).mono ?_
      rintro e w3 ⟨v3, rfl, ho3, g3⟩
      have hL : (cseal P.1).length = P.1.length + 4 := cseal_length _
      have hz3 : w.heap.size ≤ w3.heap.size := by have := g1.size; have := g2.size; have := h2.size; have := g3.size; omega
      have ho3' := own_mono (base' := w.heap.size) ho3 (by have := g1.size; have := g2.size; have := h2.size; omega)
      obtain ⟨S, hS⟩ : ∃ S, S = P.1.length := ⟨_, rfl⟩
      rw [← hS] at hL
      obtain ⟨g, cap, rfl⟩ : ∃ g cap, v3 = .slice (some ⟨g, 0, none⟩) (S + 4) cap := by
        rcases ho3'.2 with ⟨_, h0⟩ | ⟨g, cap, _, hv, _⟩
        · rw [hL] at h0; omega
        · exact ⟨g, cap, by rw [hv, hL]⟩
      have HO3 := Lib.hid ho3'
      have HL := Lib.hid hL
      have HS := Lib.hid hS
      have HLS := Lib.hid (show S ≤ 200000 by have := HLP.out; omega)
      clear ho3 ho3' hL hS
      go_wp2_with fail
      refine (open_any (cseal P.1) _ _ (Sl.of_own HO3.out) (by rw [HL.out]; have := HLS.out; omega)).mono ?_
      rw [copen_cseal]
      rintro e w4 ⟨v4, rfl, ho4, g4⟩
      obtain ⟨a4, n4, c4, rfl, hn4⟩ := bs_shape (Sl.of_own ho4)
      have f4 := (f2.grew g3).grew g4
      have HB4 := Lib.hid (Sl.of_own ho4)
      have KS := Lib.hid (same_any P.1 P.1 _ _ w4 (Sl.of_own ho4) ((HB2.out.grew g3).grew g4))
      have G4 : Grew w w4 := (((g1.trans g2).trans h2).trans g3).trans g4
      obtain ⟨e0, e1, -⟩ := cells_of f4
      clear ho4 f2
      by_cases he : P.2.1 ≠ 0
      · have hne : ((P.2.1 : Int) != 0) = true := by simp; omega
        have hn0 : n2 = 0 := by rw [hn2.out, HE1.out he]; rfl
        subst hn0
        clear he
        go_wp2
        go_ret
        exact ⟨rfl, G4⟩
      have hne : ((P.2.1 : Int) != 0) = false := by simp; omega
      have hP0 : P.2.1 = 0 := by omega
      obtain ⟨A3, A4, -⟩ := HP.out hP0 (Nat.zero_le _) rfl
      have km := fun W hW => sfields_any P.1 _ W (HB4.out.grew hW) (by have := HLP.out; omega)
      rw [show fieldsR P.1 = fieldsAt P.1 0 from rfl] at km
      obtain ⟨M, hM⟩ : ∃ M, M = fieldsAt P.1 0 := ⟨_, rfl⟩
      rw [← hM] at km A3 A4
      have hM1 : M.2.1 = 0 ∧ M.2.2 = 0 := by rw [A3]; exact ⟨rfl, rfl⟩
      rw [hM1.1, hM1.2] at km
      rw [List.length_map] at A4
      have HA4 := Lib.hid A4
      have KM := Lib.hid km
      clear km hM hM1 A3 A4 he hP0
      go_wp2_with fail
      refine KS.out.mono ?_
      rw [beq_self_eq_true]
      rintro e w5 ⟨rfl, d5⟩
      have g5 := d5.grew
      clear d5
      go_wp2_with fail
      refine (KM.out _ g5).mono ?_
      rintro e w6 ⟨v6, rfl, ⟨qs, hqs, hW6⟩, g6⟩
      obtain ⟨a6, c6, e6, -⟩ := hW6.flr.1.open
      subst e6
      have hql : qs.length = M.1.length := by rw [← hqs, List.length_map]
      have hq3 : ((qs.length : Int) != (A.length : Int)) = false := by rw [hql, HA4.out]; simp
      clear hql hW6 hqs e0 e1
      go_upto_region 16 with (fail)
      obtain ⟨W7, hW7⟩ : ∃ W7, W7 = w6.alloc (.cells #[.int .i64 0, .int .i64 0] 27) := ⟨_, rfl⟩
      rw [← hW7]
      have g7 : Grew w6 W7 := by rw [hW7]; exact grew_alloc _ _
      have f7 : Blk W7 w6.heap.size 27 #[.int .i64 0, .int .i64 0] := by rw [hW7]; exact Blk.new _ _ _
      obtain ⟨e0, e1, -⟩ := cells_of f7
      have G7 : Grew w W7 := ((G4.trans g5).trans g6).trans g7
      have HO7 := Lib.hid (own_grew (own_grew (own_grew (own_grew HO3.out g4) g5) g6) g7)
      have hS5 := HLS.out
      clear hW7 f7
      by_cases h3 : at_ < 0
      · go_wp2
        go_ret
        exact ⟨rfl, G7⟩
      obtain ⟨n, rfl⟩ := Int.eq_ofNat_of_zero_le (show 0 ≤ at_ by omega)
      by_cases h5 : 8 * (S + 4) < n + 32
      · have hd2 : decide ((n : Int) > 8 * ((S + 4 : Nat) : Int) - 32) = true := by simp; omega
        go_wp2
        go_ret
        exact ⟨rfl, G7⟩
      by_cases h0 : bs = 0
      · subst h0
        go_wp2
        go_ret
        exact ⟨rfl, G7⟩
      have hz : ((bs : Int) == 0) = false := by rw [beq_eq_false_iff_ne]; omega
      have H0 := Lib.hid h0
      have hd2 : decide ((8 * ((S : Int) + 4) - 32) < (n : Int)) = false := by simp; omega
      clear h0 h3 ha1 ha2
      have HHB := Lib.hid (show ∀ j, j < 8 * (S + 4) → bitAt (cseal P.1) j = (bitAt (cseal P.1) j != (decide (n ≤ j ∧ j < n + 0) && bs.testBit (j - n))) from fun j _ => by
        rw [show decide (n ≤ j ∧ j < n + 0) = false from decide_eq_false (by omega)]; simp)
      have HO8 := HO7.out
      unfold OwnB at HO8
      rw [HL.out] at HO8
      have HO9 := Lib.hid HO8
      clear HO8
      go_wp2
      clear e0 e1
      go_loopw [15] (fun i wr => ∃ (k : Nat) (ls : List UInt8), k ≤ 32 ∧ i = .int .i64 k ∧ wr.ownsRow w.heap.size 5 1 (.slice (some ⟨g, 0, none⟩) (S + 4) cap) (S + 4) (bv ls) ∧ ls.length = S + 4 ∧ Grew w wr ∧
          RowKit.Hid (∀ j, j < 8 * (S + 4) → bitAt ls j = (bitAt (cseal P.1) j != (decide (n ≤ j ∧ j < n + k) && bs.testBit (j - n))))) (fun i _ => 32 - (intOf i).toNat)
      case atStart => exact ⟨0, cseal P.1, by omega, rfl, HO9.out, HL.out, G7, HHB⟩
      case round =>
        obtain ⟨k, ls, hk, rfl, hown, hll, hG, HB⟩ := hrel
        by_cases hlt : k < 32
        · have hbt := bit_test bs k
          have HLL := Lib.hid hll
          have hq : (n + k) / 8 < ls.length := by omega
          clear hll
          by_cases hbit : bs.testBit k = true
          · rw [hbit] at hbt
            have hx : (ls.getD ((n + k) / 8) 0).toNat < 256 := by have := (ls.getD ((n + k) / 8) 0).toNat_lt; omega
            have c1 : wr.cell? ⟨g, (n + k) / 8, none⟩ = some (.int .u8 ((ls.getD ((n + k) / 8) 0).toNat : Int)) := by
              rw [hown.cellAt _ (by have := HLL.out; omega), bv_get ls _ hq]; simp [List.getD, hq]
            have f1 := hown.frozenAt ((n + k) / 8)
            have HB1 := Lib.hid hbit
            clear hbit
            obtain ⟨x, hxx⟩ : ∃ x, (ls.getD ((n + k) / 8) 0).toNat = x := ⟨_, rfl⟩
            rw [hxx] at c1 hx
            have HX := Lib.hid hxx
            clear hxx
            have q0 : ((n : Int) + k).tdiv 8 = ((n : Int) + k) / 8 := Int.tdiv_eq_ediv_of_nonneg (by omega)
            have q1 : IntKind.i64.wrap (((n : Int) + k).tdiv 8) = ((n : Int) + k) / 8 := by rw [q0]; exact IntWalk.i64_in _ (by omega)
            have q2 : (0 : Int) ≤ ((n : Int) + k) / 8 := by omega
            have q3 : ((n : Int) + k) / 8 < (S : Int) + 4 := by have := HLL.out; omega
            have q4 : (((n : Int) + k) / 8).toNat = (n + k) / 8 := by omega
            have r0 : ((n : Int) + k).tmod 8 = ((n : Int) + k) % 8 := Int.tmod_eq_emod_of_nonneg (by omega)
            have q5 : IntKind.i64.wrap ((n : Int) + k) = (n : Int) + k := IntWalk.i64_in _ (by omega)
            have q6 : ¬ ((n : Int) + k) / 8 < 0 := by omega
            have q7 : ¬ ((S : Int) + 4 ≤ ((n : Int) + k) / 8) := by omega
            clear q0
            have s1 : (0 : Int) ≤ ((n : Int) + k) % 8 ∧ ((n : Int) + k) % 8 < 8 := by omega
            go_wp2_with fail
            refine wp_region_tail 14 (by kernel_rfl) (by kernel_rfl) ?_
            simp only [List.take_succ_cons, List.take_zero, List.drop_succ_cons, List.drop_zero]
            repeat still_step
            refine wpStill_nil ?_
            go_wp2
            refine ⟨⟨k + 1, turn ls (n + k), by omega, by go_num, ?_, by rw [turn_length]; exact HLL.out, (grew_set hG (own_lt hown g rfl).1 _).drew, turned _ _ _ _ _ _ (by have := HLL.out; omega) HB1.out HB.out⟩, ?_⟩
            · have hs := (hown.stored ((n + k) / 8) (Value.int IntKind.u8 (bits BinOp.xor IntKind.u8 (↑x) (2 ^ ((n + k) % 8) % 256)))).1
              have e : bv (turn ls (n + k)) = (bv ls).set ((n + k) / 8) (Value.int IntKind.u8 (bits BinOp.xor IntKind.u8 (↑x) (2 ^ ((n + k) % 8) % 256))) := by
                rw [u8_turn x _ hx (by omega), ← HX.out]
                simp only [bv, turn, List.map_set]
              rw [e]
              exact hs
            · simp [intOf]; omega
          · have hbit' : bs.testBit k = false := by simpa using hbit
            rw [hbit'] at hbt
            have HB1 := Lib.hid hbit'
            clear hbit hbit'
            go_wp2
            go_roundw
            case rel => exact ⟨k + 1, ls, by omega, by go_num, hown, HLL.out, hG, unturned _ _ _ _ _ _ HB1.out HB.out⟩
            case measure => simp [intOf]; omega
        · obtain rfl : k = 32 := by omega
          have ho := copen_burst P.1 ls n bs hbs H0.out (by have := HS.out; omega) (by rw [hll, HS.out]) (by rw [← HS.out]; exact HB.out)
          have hbl : Bs wr (.slice (some ⟨g, 0, none⟩) (S + 4) cap) ls := by unfold Bs; rw [hll]; exact Sl.of_own hown
          have HO := Lib.hid ho
          clear ho hown
          go_wp2_with fail
          refine (open_any ls _ _ hbl (by omega)).mono ?_
          rw [HO.out]
          rintro e w9 ⟨v9, rfl, ho9, g9⟩
          obtain ⟨a9, n9, c9, rfl, hn9⟩ := bs_shape (Sl.of_own ho9)
          have hn9' : n9 = 0 := hn9.out
          subst hn9'
          clear ho9 hbl
          go_wp2
          go_ret
          exact ⟨rfl, Grew.trans hG g9⟩
end Go.Proofs.Ytgoaijpckckdnaa
