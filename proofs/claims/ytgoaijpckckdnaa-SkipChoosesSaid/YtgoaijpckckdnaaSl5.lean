/- SkipChooses: the walk. -/
import Derived.Test.YtgoaijpckckdnaaSl1
namespace Go.Proofs.Ytgoaijpckckdnaa
open Go Go.RowKit Go.Shelf
attribute [local go_sem] Oper.semAt_some

theorem lastX_snoc (fs : List Fld) (x : Fld) (num : Int) (wire : Nat) : lastX (fs ++ [x]) num wire = if isF num wire x = true then (x, true) else lastX fs num wire := by
  unfold lastX
  rw [List.reverse_append, List.reverse_singleton, List.singleton_append, List.find?_cons]
  cases isF num wire x <;> rfl
/-- append of a field to a row of the call's own; where the new row lies -/
theorem wpList_pushF2 {W : World} {ops : Array Oper} {rest : List Oper} {o : Oper} {a : Act} {Q : Exit → Act → World → Prop} (hgd : o.guard = none) (s x : Operand)
    (ho : o.op = .call { callee := .builtin .append, args := #[s, x], argTypes := #[24, 24] })
    (base : Nat) (v : Value) (ps : List FFV) (hs : a.eval s = v) (hown : OwnF W base v ps) (xv : Value) (hx : a.eval x = xv) (p : FFV) (hsl : Sl W xv 1 5 (ffv p)) {l : List UInt8} (hp : Bs W p.2 l)
    (hlen : ps.length + 1 ≤ 1000000000) (hbase : base ≤ W.heap.size)
    (h : ∀ v' w', OwnF w' base v' (ps ++ [p]) → Below base W w' → W.grownBy w' v.ownBlock → (v'.ownBlock = v.ownBlock ∨ v'.ownBlock = some W.heap.size) → wpList Try.prog ops Q rest (a.put o.dst v') w') : wpList Try.prog ops Q (o :: rest) a W := by
  obtain ⟨i0, hi, hz0, hz1, hz2⟩ := info_parts info_field
  rcases hsl.shape with ⟨rfl, h0, h1⟩ | ⟨ad, cap, rfl, _, _, hl, hc⟩
  · cases h0
  · refine wpList_plain hgd fun K hK => ?_
    obtain ⟨v', w', hr, h2, h3, _, h5⟩ := run_append_own_at (P := Try.prog) W base 24 o.type 39 i0 (.agg #[.int .i64 0, .int .u8 0, .int .u64 0, .slice none 0 0, .int .i64 0]) 5 56 Try.underlying24 hi hz0 hz1 hz2 rfl (by decide) v ps.length _ hown ad 1 cap (ffv p) hl hc (ffv_one p hp) (by unfold maxLen; omega) (by omega) hbase
    unfold Oper.wp execOp
    simp only [ho, resolve, invoke, builtin, Sem.run_bind, Sem.run_pure, Result.andThen_ok, List.map_toArray, List.map_cons, List.map_nil, hs, hx, hr]
    exact hK _ _ (h v' w' (by rw [OwnF, List.length_append, List.flatMap_append]; simpa using h2) (grownBy_below h3 hown hbase) h3 h5)
set_option maxRecDepth 100000 in
set_option maxHeartbeats 8000000 in
theorem skchooses_walk (A : List FFV) (v : Value) (num : Int) (wire : Nat) (w : World) (hA : FlR w v A) : Calls Try.prog 7 #[v, .int .i64 num, .int .u8 wire] w fun e w' => e = .returned (.bool true) ∧ Grew w w' := by
  obtain ⟨a, c, rfl, -⟩ := hA.1.open
  have HA := Lib.hid hA
  clear hA
  go_enter Try.func7, Try.ntmps7
  go_wp2_with fail
  refine (live06_any w).mono ?_
  rintro e w1 ⟨rfl, g1⟩
  go_wp2_with fail
  refine (few06_any A _ _ (HA.out.grew g1)).mono ?_
  rintro e w2 ⟨rfl, rfl⟩
  cases hfw : fewF (A.map (·.1)) with
  | false =>
    clear hfw
    go_wp2
    go_ret
    exact ⟨rfl, g1⟩
  | true =>
  have hl : A.length ≤ 40 := by
    unfold fewF at hfw
    simp only [Bool.and_eq_true, decide_eq_true_eq, List.length_map] at hfw
    exact hfw.1
  clear hfw
  have k0 := Blk.new w1 39 #[.int .i64 0, .int .u8 0, .int .u64 0, .slice none 0 0, .int .i64 0]
  have h1 := grew_alloc w1 (.cells #[.int .i64 0, .int .u8 0, .int .u64 0, .slice none 0 0, .int .i64 0] 39)
  go_wp2
  go_loopw [7, 8, 10, 11] (fun ov tv iv i wr => ∃ (k : Nat) (xv : Value), k ≤ A.length ∧ i = .int .i64 k ∧ OwnF wr (w1.heap.size + 1) ov ((A.take k).filter fun p => p.1.1 == num) ∧ OwnF wr (w1.heap.size + 1) tv ((A.take k).filter fun p => p.1.1 != num) ∧
    (∀ g, ov.ownBlock = some g → tv.ownBlock ≠ some g) ∧ iv = .bool (lastX ((A.map (·.1)).take k) num wire).2 ∧
    Blk wr w1.heap.size 39 #[.int .i64 (lastX ((A.map (·.1)).take k) num wire).1.1, .int .u8 ((lastX ((A.map (·.1)).take k) num wire).1.2.1 : Nat), .int .u64 ((lastX ((A.map (·.1)).take k) num wire).1.2.2.1 : Nat), xv, .int .i64 (lastX ((A.map (·.1)).take k) num wire).1.2.2.2.2] ∧
    Bs w1 xv (fB (lastX ((A.map (·.1)).take k) num wire).1) ∧ Below w1.heap.size w1 wr ∧ w1.heap.size + 1 ≤ wr.heap.size) (fun _ _ _ i _ => A.length - (intOf i).toNat)
  case atStart => exact ⟨0, .slice none 0 0, Nat.zero_le _, rfl, World.ownsRow_nil _ _ _ _, World.ownsRow_nil _ _ _ _, (fun g h => by cases h), rfl, k0, Sl.nil _ _, h1, by simp⟩
  case round =>
    obtain ⟨k, xv, hk, rfl, ho, ht, hdj, rfl, hbx, hxb, hG, hz⟩ := hrel
    obtain ⟨O, hO⟩ : ∃ O, O = (A.take k).filter fun p => p.1.1 == num := ⟨_, rfl⟩
    obtain ⟨T, hT⟩ : ∃ T, T = (A.take k).filter fun p => p.1.1 != num := ⟨_, rfl⟩
    obtain ⟨L, hL⟩ : ∃ L, L = lastX ((A.map (·.1)).take k) num wire := ⟨_, rfl⟩
    rw [← hO] at ho
    rw [← hT] at ht
    rw [← hL] at hbx hxb ⊢
    have hOl : O.length ≤ 40 := by rw [hO]; refine Nat.le_trans (List.length_filter_le _ _) (by simp; omega)
    have hTl : T.length ≤ 40 := by rw [hT]; refine Nat.le_trans (List.length_filter_le _ _) (by simp; omega)
    have HO := Lib.hid hO
    have HT := Lib.hid hT
    have HL := Lib.hid hL
    have HXB := Lib.hid hxb
    have HDJ := Lib.hid hdj
    have HHO := Lib.hid ho
    have HHT := Lib.hid ht
    obtain ⟨oa, oc, rfl, -⟩ := (Sl.of_own ho).open
    obtain ⟨ta, tc, rfl, -⟩ := (Sl.of_own ht).open
    obtain ⟨xva, xvn, xvc, rfl, hxvn⟩ := bs_shape hxb
    have hG' : Grew w1 wr := hG
    clear hO hT hL hxb hdj ho ht k0
    by_cases hlt : k < A.length
    · have hfl := (HA.out.grew g1).grew hG'
      obtain ⟨_, _, ex, -, -, -, d1⟩ := hfl.1.open
      cases ex
      obtain ⟨b1, o1, rfl, -⟩ := d1 (by omega)
      obtain ⟨x0, x1, x2, x3, x4, -⟩ := fl_cells hfl k hlt
      have hx5 := (HA.out.grew g1).2 _ (List.getElem_mem hlt)
      have hts : ∀ q : FFV → Bool, (A.take (k + 1)).filter q = (A.take k).filter q ++ [A[k]].filter q := fun q => by rw [List.take_succ_eq_append_getElem hlt, List.filter_append]
      have hls : lastX ((A.map (·.1)).take (k + 1)) num wire = if isF num wire A[k].1 = true then (A[k].1, true) else L := by
        rw [List.take_succ_eq_append_getElem (by rw [List.length_map]; exact hlt), lastX_snoc, ← HL.out, List.getElem_map]
      obtain ⟨⟨X, xv2⟩, hr⟩ : ∃ r, r = A[k] := ⟨_, rfl⟩
      rw [← hr] at x0 x1 x2 x3 x4 hx5 hls
      have hts1 : (A.take (k + 1)).filter (fun p => p.1.1 == num) = O ++ [((X, xv2) : FFV)].filter (fun p => p.1.1 == num) := by rw [hts, ← HO.out, ← hr]
      have hts2 : (A.take (k + 1)).filter (fun p => p.1.1 != num) = T ++ [((X, xv2) : FFV)].filter (fun p => p.1.1 != num) := by rw [hts, ← HT.out, ← hr]
      simp only at x0 x1 x2 x3 x4 hx5 hls
      obtain ⟨xa, xn, xc, rfl, hxn⟩ := bs_shape hx5
      have HS1 := Lib.hid hts1
      have HS2 := Lib.hid hts2
      have HLS := Lib.hid hls
      have HX5 := Lib.hid hx5
      have gb := grew_alloc wr (.cells #[.int .i64 X.1, .int .u8 (X.2.1 : Nat), .int .u64 (X.2.2.1 : Nat), .slice xa xn xc, .int .i64 X.2.2.2.2] 39)
      have hsl : Sl (wr.alloc (.cells #[.int .i64 X.1, .int .u8 (X.2.1 : Nat), .int .u64 (X.2.2.1 : Nat), .slice xa xn xc, .int .i64 X.2.2.2.2] 39)) (.slice (some ⟨wr.heap.size, 0, none⟩) 1 1) 1 5 (ffv (X, .slice xa xn xc)) := Sl.lit wr 39 (0, 0) #[.int .i64 X.1, .int .u8 (X.2.1 : Nat), .int .u64 (X.2.2.1 : Nat), .slice xa xn xc, .int .i64 X.2.2.2.2] 1 5 rfl (by unfold maxLen; omega)
      have HSL := Lib.hid hsl
      have hb5 := Lib.hid ((hx5.grew hG').grew gb)
      have HO2 := Lib.hid (own_grew HHO.out gb)
      have HT2 := Lib.hid (own_grew HHT.out gb)
      have hbx2 := hbx.grew gb
      have z1 : (k : Int) < (A.length : Int) := by omega
      have z0 : (0 : Int) ≤ (k : Int) := by omega
      have HR := Lib.hid hr.symm
      clear hts hts1 hts2 hls hx5 hr hsl hfl d1 hbx
      by_cases hn : X.1 = num
      · have q1 : (X.1 == num) = true := by simpa using hn
        have q2 : (X.1 != num) = false := by simpa using hn
        have Q1 := Lib.hid q1
        have Q2 := Lib.hid q2
        have hr' : A[k] = (X, .slice xa xn xc) := HR.out
        clear hn q2
        by_cases hw : X.2.1 = wire
        · have q3 : (((X.2.1 : Nat) : Int) == (wire : Int)) = true := by simp; omega
          have HISF := Lib.hid (show isF num wire X = true by unfold isF; rw [q1]; simpa using hw)
          clear hw
          go_wp2_with (at_builtin; refine wpList_pushF2 rfl _ _ rfl (w1.heap.size + 1) (.slice oa O.length oc) O rfl HO2.out _ rfl (X, .slice xa xn xc) HSL.out hb5.out (by omega) (by simp; omega) ?_; intro v' w3 hown3 hB3 hgb hnew; have G3 : Grew w1 w3 := Below.trans (hG'.trans gb) (hB3.mono (by omega)); have hfl3 := (HA.out.grew g1).grew G3; obtain ⟨y0, y1, y2, y3, y4, -⟩ := fl_cells hfl3 k hlt; rw [hr'] at y0 y1 y2 y3 y4; simp only at y0 y1 y2 y3 y4; have hb9 : Blk w3 w1.heap.size 39 _ := hbx2.kept hgb (fun e => by have := (own_lt HO2.out _ e.symm).1; omega); obtain ⟨d0, d1, d2, d3, d4, f0, f1, f2, f3, f4⟩ := cells5 hb9)
          have ht3 : OwnF w3 (w1.heap.size + 1) _ T := own_block HT2.out (fun g e => hgb.block g (own_lt HT2.out g e).2 (fun e' => HDJ.out g e'.symm e))
          have hdj3 : ∀ g, v'.ownBlock = some g → (Value.slice ta T.length tc).ownBlock ≠ some g := by
            intro g e e'
            rcases hnew with h | h
            · exact HDJ.out g (by rw [← h]; exact e) e'
            · have := (own_lt HHT.out g e').2
              rw [h] at e; simp at e; omega
          obtain ⟨W9, hW9⟩ : ∃ W9, W9 = ((((w3.setCell ⟨w1.heap.size, 0, none⟩ (.int .i64 X.1)).setCell ⟨w1.heap.size, 1, none⟩ (.int .u8 (X.2.1 : Nat))).setCell ⟨w1.heap.size, 2, none⟩ (.int .u64 (X.2.2.1 : Nat))).setCell ⟨w1.heap.size, 3, none⟩ (.slice xa xn xc)).setCell ⟨w1.heap.size, 4, none⟩ (.int .i64 X.2.2.2.2) := ⟨_, rfl⟩
          have f9 : Fr (· = w1.heap.size) w3 W9 := by rw [hW9]; exact (((((Fr.refl (· = w1.heap.size) w3).set _ 0 _ (fun _ => rfl)).set _ 1 _ (fun _ => rfl)).set _ 2 _ (fun _ => rfl)).set _ 3 _ (fun _ => rfl)).set _ 4 _ (fun _ => rfl)
          have b9 : Blk W9 w1.heap.size 39 #[.int .i64 X.1, .int .u8 (X.2.1 : Nat), .int .u64 (X.2.2.1 : Nat), .slice xa xn xc, .int .i64 X.2.2.2.2] := by rw [hW9]; exact ((((hb9.set 0 _).set 1 _).set 2 _).set 3 _).set 4 _
          try rw [← hW9]
          have hz9 := f9.size
          have hz3 := hB3.size
          refine ⟨⟨k + 1, .slice xa xn xc, by omega, by go_num, ?_, ?_, hdj3, ?_, ?_, ?_, ?_, ?_⟩, ?_⟩
          · rw [HS1.out, show ([((X, Value.slice xa xn xc) : FFV)].filter fun p => p.1.1 == num) = [(X, .slice xa xn xc)] from by simp [Q1.out]]; exact own_fr hown3 f9 (fun g hg e => by have := (own_lt hown3 g hg).1; omega)
          · rw [HS2.out]; simpa [Q2.out] using own_fr ht3 f9 (fun g hg e => by have := (own_lt ht3 g hg).1; omega)
          · rw [HLS.out, if_pos HISF.out]
          · rw [HLS.out, if_pos HISF.out]; exact b9
          · rw [HLS.out, if_pos HISF.out]; exact HX5.out
          · exact Below.trans G3 (f9.below (by have := G3.size; omega) (fun i e => by omega))
          · simp at hz3; omega
          · simp [intOf]; omega
        · have q3 : (((X.2.1 : Nat) : Int) == (wire : Int)) = false := by simp; omega
          have HISF := Lib.hid (show isF num wire X = false by unfold isF; rw [q1]; simpa using hw)
          clear hw
          go_wp2_with (at_builtin; refine wpList_pushF2 rfl _ _ rfl (w1.heap.size + 1) (.slice oa O.length oc) O rfl HO2.out _ rfl (X, .slice xa xn xc) HSL.out hb5.out (by omega) (by simp; omega) ?_; intro v' w3 hown3 hB3 hgb hnew; have G3 : Grew w1 w3 := Below.trans (hG'.trans gb) (hB3.mono (by omega)); have hfl3 := (HA.out.grew g1).grew G3; obtain ⟨y0, y1, y2, y3, y4, -⟩ := fl_cells hfl3 k hlt; rw [hr'] at y0 y1 y2 y3 y4; simp only at y0 y1 y2 y3 y4; have hb9 : Blk w3 w1.heap.size 39 _ := hbx2.kept hgb (fun e => by have := (own_lt HO2.out _ e.symm).1; omega); obtain ⟨d0, d1, d2, d3, d4, f0, f1, f2, f3, f4⟩ := cells5 hb9)
          have ht3 : OwnF w3 (w1.heap.size + 1) _ T := own_block HT2.out (fun g e => hgb.block g (own_lt HT2.out g e).2 (fun e' => HDJ.out g e'.symm e))
          have hdj3 : ∀ g, v'.ownBlock = some g → (Value.slice ta T.length tc).ownBlock ≠ some g := by
            intro g e e'
            rcases hnew with h | h
            · exact HDJ.out g (by rw [← h]; exact e) e'
            · have := (own_lt HHT.out g e').2
              rw [h] at e; simp at e; omega
          have hz3 := hB3.size
          refine ⟨⟨k + 1, .slice xva xvn xvc, by omega, by go_num, ?_, ?_, hdj3, ?_, ?_, ?_, G3, ?_⟩, ?_⟩
          · rw [HS1.out]; simpa [Q1.out] using hown3
          · rw [HS2.out]; simpa [Q2.out] using ht3
          · rw [HLS.out, HISF.out]; rfl
          · rw [HLS.out, HISF.out]; exact hb9
          · rw [HLS.out, HISF.out]; exact HXB.out
          · simp at hz3; omega
          · simp [intOf]; omega
      · have q1 : (X.1 == num) = false := by simpa using hn
        have q2 : (X.1 != num) = true := by simpa using hn
        have Q1 := Lib.hid q1
        have Q2 := Lib.hid q2
        have HISF := Lib.hid (show isF num wire X = false by unfold isF; rw [q1]; rfl)
        clear hn q2
        go_wp2_with (at_builtin; refine wpList_pushF2 rfl _ _ rfl (w1.heap.size + 1) (.slice ta T.length tc) T rfl HT2.out _ rfl (X, .slice xa xn xc) HSL.out hb5.out (by omega) (by simp; omega) ?_; intro v' w3 hown3 hB3 hgb hnew)
        have G3 : Grew w1 w3 := Below.trans (hG'.trans gb) (hB3.mono (by omega))
        have hb9 := hbx2.kept hgb (fun e => by have := (own_lt HT2.out _ e.symm).1; omega)
        have ho3 : OwnF w3 (w1.heap.size + 1) _ O := own_block HO2.out (fun g e => hgb.block g (own_lt HO2.out g e).2 (fun e' => HDJ.out g e e'.symm))
        have hdj3 : ∀ g, (Value.slice oa O.length oc).ownBlock = some g → v'.ownBlock ≠ some g := by
          intro g e e'
          rcases hnew with h | h
          · exact HDJ.out g e (by rw [← h]; exact e')
          · have := (own_lt HHO.out g e).2
            rw [h] at e'; simp at e'; omega
        have hz3 := hB3.size
        refine ⟨⟨k + 1, .slice xva xvn xvc, by omega, by go_num, ?_, ?_, hdj3, ?_, ?_, ?_, G3, ?_⟩, ?_⟩
        · rw [HS1.out]; simpa [Q1.out] using ho3
        · rw [HS2.out]; simpa [Q2.out] using hown3
        · rw [HLS.out, HISF.out]; rfl
        · rw [HLS.out, HISF.out]; exact hb9
        · rw [HLS.out, HISF.out]; exact HXB.out
        · simp at hz3; omega
        · simp [intOf]; omega
    · obtain rfl : k = A.length := by omega
      have hO2 := HO.out
      have hT2 := HT.out
      have hL2 := HL.out
      rw [List.take_length] at hO2 hT2
      rw [List.take_of_length_le (by rw [List.length_map]; exact Nat.le_refl _)] at hL2
      have hfl := (HA.out.grew g1).grew hG'
      have kl := slast_any A _ num wire wr hfl
      rw [← hL2] at kl
      have KL := Lib.hid kl
      have KO := Lib.hid (fun W (hW : Grew wr W) => skof_any A _ num W (hfl.grew hW) (by omega))
      have KW := Lib.hid (fun W (hW : Grew wr W) => skwo_any A _ num W (hfl.grew hW) (by omega))
      have HOO := Lib.hid hO2
      have HTT := Lib.hid hT2
      clear hO2 hT2 hL2 kl
      go_wp2_with fail
      refine KL.out.mono ?_
      rintro e w3 ⟨xv3, rfl, hx3, g3⟩
      obtain ⟨xa, xn, xc, rfl, hxn⟩ := bs_shape hx3
      go_upto_region 16 with (fail)
      obtain ⟨W4, hW4⟩ : ∃ W4, W4 = w3.alloc (.cells #[.int .i64 L.1.1, .int .u8 (L.1.2.1 : Nat), .int .u64 (L.1.2.2.1 : Nat), .slice xa xn xc, .int .i64 L.1.2.2.2.2] 39) := ⟨_, rfl⟩
      have g4 : Grew w3 W4 := by rw [hW4]; exact grew_alloc _ _
      have b4 : Blk W4 w3.heap.size 39 #[.int .i64 L.1.1, .int .u8 (L.1.2.1 : Nat), .int .u64 (L.1.2.2.1 : Nat), .slice xa xn xc, .int .i64 L.1.2.2.2.2] := by rw [hW4]; exact Blk.new _ _ _
      rw [← hW4]
      have b9 := (hbx.grew g3).grew g4
      have G4 := (hG'.trans g3).trans g4
      have HB4 := Lib.hid b4
      have HB9 := Lib.hid b9
      have HX4 := Lib.hid (hx3.grew g4)
      have HX9 := Lib.hid (HXB.out.grew G4)
      have HOF := Lib.hid (fun W (hW : Grew W4 W) => (show FlRs W _ (O.map (·.1)) from ⟨O, rfl, Sl.of_own (own_grew (own_grew (own_grew HHO.out g3) g4) hW), fun p hp => (hfl.grew ((g3.trans g4).trans hW)).2 p (by rw [HOO.out] at hp; exact (List.mem_filter.1 hp).1)⟩))
      have HTF := Lib.hid (fun W (hW : Grew W4 W) => (show FlRs W _ (T.map (·.1)) from ⟨T, rfl, Sl.of_own (own_grew (own_grew (own_grew HHT.out g3) g4) hW), fun p hp => (hfl.grew ((g3.trans g4).trans hW)).2 p (by rw [HTT.out] at hp; exact (List.mem_filter.1 hp).1)⟩))
      have HFL := Lib.hid (fun W (hW : Grew W4 W) => hfl.grew ((g3.trans g4).trans hW))
      have HG34 := Lib.hid (g3.trans g4)
      clear hW4 b4 b9 hx3 hfl hbx
      go_wp2_with fail
      refine (KO.out _ HG34.out).mono ?_
      rintro e w5 ⟨v5, rfl, ho5, g5⟩
      obtain ⟨a5, c5, rfl, -⟩ := (Sl.of_own ho5).open
      have HS5 := Lib.hid (same06_any (O.map (·.1)) (O.map (·.1)) _ _ w5 ⟨_, by rw [← HOO.out], Sl.of_own ho5, fun p hp => (HFL.out w5 g5).2 p (List.mem_filter.1 hp).1⟩ (HOF.out w5 g5))
      clear ho5
      go_wp2_with fail
      refine HS5.out.mono ?_
      rw [beq_self_eq_true]
      rintro e w6 ⟨rfl, g6⟩
      go_wp2_with fail
      refine (KW.out _ ((HG34.out.trans g5).trans g6)).mono ?_
      rintro e w7 ⟨v7, rfl, ho7, g7⟩
      obtain ⟨a7, c7, rfl, -⟩ := (Sl.of_own ho7).open
      have G7 : Grew W4 w7 := (g5.trans g6).trans g7
      have HS7 := Lib.hid (same06_any (T.map (·.1)) (T.map (·.1)) _ _ w7 ⟨_, by rw [← HTT.out], Sl.of_own ho7, fun p hp => (HFL.out w7 G7).2 p (List.mem_filter.1 hp).1⟩ (HTF.out w7 G7))
      clear ho7
      go_wp2_with fail
      refine HS7.out.mono ?_
      rw [beq_self_eq_true]
      rintro e w8 ⟨rfl, g8⟩
      have G8 : Grew W4 w8 := G7.trans g8
      have b4 := HB4.out.grew G8
      have b9 := HB9.out.grew G8
      obtain ⟨e0, e1, e2, e3, e4, -⟩ := cells5 b4
      obtain ⟨e5, e6, e7, e8, e9, -⟩ := cells5 b9
      have kl := like_any L.1 L.1 _ _ w8 (HX4.out.grew G8) (HX9.out.grew G8)
      rw [show likeF L.1 L.1 = true from likeF_iff.2 ⟨rfl, rfl, rfl, rfl⟩] at kl
      have KLL := Lib.hid kl
      have hbb : (L.2 == L.2) = true := by simp
      clear b4 b9 kl
      go_wp2_with fail
      refine KLL.out.mono ?_
      rintro e w9 ⟨rfl, g9⟩
      have b4 := (HB4.out.grew G8).grew g9
      have b9 := (HB9.out.grew G8).grew g9
      clear e0 e1 e2 e3 e4 e5 e6 e7 e8 e9
      obtain ⟨e0, e1, e2, e3, e4, -⟩ := cells5 b4
      obtain ⟨e5, e6, e7, e8, e9, -⟩ := cells5 b9
      go_wp2
      go_ret
      exact ⟨by simp, (g1.trans G4).trans (G8.trans g9)⟩
end Go.Proofs.Ytgoaijpckckdnaa
