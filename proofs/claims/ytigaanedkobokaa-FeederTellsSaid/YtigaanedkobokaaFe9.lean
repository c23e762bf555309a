/- The law FeederTells returns true: its walk. -/
import Derived.Test.YtigaanedkobokaaFe8
namespace Go.Proofs.Ytigaanedkobokaa
open Go Go.RowKit Go.Shelf

set_option maxRecDepth 100000 in
set_option maxHeartbeats 8000000 in
theorem tells_walk (A : List AskF) (v : Value) (w : World) (hA : AskFR w v A) :
    Calls Try.prog 9 #[v] w fun e w' => e = .returned (.bool true) ∧ Grew w w' := by
  obtain ⟨a, n, c, rfl, hn, h1, h2⟩ := hA.open
  subst hn
  have HA := Lib.hid hA
  clear hA
  go_enter Try.func9, Try.ntmps9
  go_wp2_with fail
  refine (live15_any _).mono ?_
  rintro e w1 ⟨rfl, g1⟩
  have A1 : RowKit.Hid (AskFR w1 (.slice a A.length c) A) := ⟨HA.out.1.grew g1, fun x hx => (HA.out.2 x hx).grew g1⟩
  go_wp2_with fail
  refine (small_any A _ _ A1.out).mono ?_
  rintro e w2 ⟨rfl, rfl⟩
  cases hs : smallL A with
  | false =>
    clear hs
    go_wp2
    go_ret
    exact ⟨rfl, g1⟩
  | true =>
  have hs2 : sumL A ≤ 3000 := by have := (Bool.and_eq_true_iff.1 hs).2; simpa using this
  have HSM := Lib.hid hs2
  clear hs hs2
  go_wp2_with fail
  refine (fnew_any _).mono ?_
  rintro e w3 ⟨rfl, d3, g3⟩
  have D3 := Lib.hid (d3.grew (grew_alloc w3 (.cells #[.slice none 0 0, .int .i64 0, .bool false] 59)))
  have hsz : w1.heap.size < w3.heap.size := by obtain ⟨v, h1, _⟩ := d3; exact h1.lt
  have g4 := g3.trans (grew_alloc w3 (.cells #[.slice none 0 0, .int .i64 0, .bool false] 59))
  have e3 : FdS 59 w1.heap.size (· = w3.heap.size) (w3.alloc (.cells #[.slice none 0 0, .int .i64 0, .bool false] 59)) w3.heap.size [] 0 false :=
    ⟨_, Blk.new _ _ _, ownB_nil _ _, by omega, fun k => by simp [Value.ownBlock]⟩
  have E3 := Lib.hid e3
  obtain ⟨pf, hpf⟩ : ∃ pf, pf = w1.heap.size := ⟨_, rfl⟩
  obtain ⟨pw, hpw⟩ : ∃ pw, pw = w3.heap.size := ⟨_, rfl⟩
  have D3' : RowKit.Hid (FdS 77 w1.heap.size (· = pf) (w3.alloc (.cells #[.slice none 0 0, .int .i64 0, .bool false] 59)) pf [] 0 false) := by rw [hpf]; exact D3.out
  have E3' : RowKit.Hid (FdS 59 w1.heap.size (· = pw) (w3.alloc (.cells #[.slice none 0 0, .int .i64 0, .bool false] 59)) pw [] 0 false) := by rw [hpw]; exact E3.out
  have hne : ∀ k, k = pf → ¬ k = pw := by intro k h1 h2; omega
  have HNE := Lib.hid hne
  have HPF := Lib.hid hpf
  have HPW := Lib.hid hpw
  clear d3 e3 hne
  go_wp2
  rw [← hpf, ← hpw]
  clear hpf hpw
  go_loopw [5, 6] (fun cm i wr => ∃ (k : Nat) (K B : List UInt8) (n told : Nat) (over : Bool) (Ff Fw : Nat → Prop), k ≤ A.length ∧ i = .int .i64 k ∧ cm = .int .i64 (B.length : Nat) ∧
    FdS 77 w1.heap.size Ff wr pf K n over ∧ FdS 59 w1.heap.size Fw wr pw B told over ∧ (∀ k, Ff k → ¬ Fw k) ∧ fInv B K n told ∧ B.length ≤ sumL (A.take k) ∧ B.length ≤ 3000 ∧ Grew w1 wr) (fun _ i _ => A.length - (intOf i).toNat)
  case atStart => exact ⟨0, [], [], 0, 0, false, _, _, Nat.zero_le _, rfl, rfl, D3'.out, E3'.out, HNE.out, fInv.nil, Nat.zero_le _, Nat.zero_le _, g4⟩
  case round =>
    obtain ⟨k, K, B, n, told, over, Ff, Fw, hk, rfl, rfl, dF, dW, hdj, hiv, hbl, hb3, gr⟩ := hrel
    clear g3
    by_cases hlt : k < A.length
    · obtain ⟨b, o, rfl, hcl⟩ := A1.out.cells (by omega)
      obtain ⟨x0, x1, x2⟩ := hcl k hlt
      obtain ⟨⟨fin, m, mv⟩, hm⟩ : ∃ q, q = A[k] := ⟨_, rfl⟩
      have hsn := sumL_snoc (A.take k) A[k]
      rw [← List.take_succ_eq_append_getElem hlt] at hsn
      have hst : sumL (A.take (k + 1)) ≤ sumL A := by
        have h := sumL_app (A.take (k + 1)) (A.drop (k + 1))
        rw [List.take_append_drop] at h
        omega
      rw [← hm] at x0 x1 x2 hsn
      simp only at x0 x1 x2 hsn
      have y1 := x1
      have y2 := x2
      replace x0 := (below_ext gr) _ _ x0
      replace x1 := (below_ext gr) _ _ x1
      replace x2 := x2.grew gr
      obtain ⟨ma, mn, mc, rfl, hmn⟩ := bs_shape x2
      have HMN := hmn
      obtain ⟨kwv, kw1, -, -, -⟩ := id dW
      obtain ⟨-, -, t2, -, -, -⟩ := cells3 kw1
      have hsm := HSM.out
      have hml : m.length ≤ 3000 := by omega
      have hml2 : B.length + m.length ≤ sumL (A.take (k + 1)) := by omega
      have hml3 : B.length + m.length ≤ 3000 := by omega
      have hkk : B.length ≤ sumL (A.take (k + 1)) := by omega
      have DF0 := Lib.hid dF
      have DW0 := Lib.hid dW
      have HDJ0 := Lib.hid hdj
      have HIV0 := Lib.hid hiv
      have HB3 := Lib.hid hb3
      have HML2 := Lib.hid hml2
      have HML3 := Lib.hid hml3
      have HKK := Lib.hid hkk
      have GR := Lib.hid gr
      have X1 := Lib.hid y1
      have X2 := Lib.hid y2
      have hBi : (B.length : Int) ≤ 3000 := by omega
      have hmi : (mn : Int) ≤ 3000 := by have := HMN.out; omega
      have z0 : (0 : Int) ≤ (k : Int) := by omega
      have z1 : (k : Int) < (A.length : Int) := by omega
      clear dF dW hdj hiv hbl hb3 kw1 hm hcl x2 y1 y2 hmn hst hsn hsm hml2 hml3 hkk hml
      cases fin with
      | true =>
        -- the stream ends
        have kf := fend_any _ _ _ _ _ _ wr DF0.out (by have := HIV0.out.le; have := HB3.out; omega) (by have := HIV0.out.le; have := HB3.out; omega)
        have KF := Lib.hid kf
        clear kf
        go_wp2_with fail
        refine KF.out.mono ?_
        rintro e W1 ⟨va, rfl, F1, b1, d1, f1, s1, hb1, r1, q1⟩
        obtain ⟨aa, an, ac, rfl, -, -, -⟩ := r1.shape
        have dW1 := DW0.out.fr f1 (fun k hk hf => HDJ0.out k hf hk)
        have kw := r15end_any _ _ _ _ _ _ W1 dW1 (by have := HB3.out; omega)
        have KW := Lib.hid kw
        have D1 := Lib.hid d1
        have F1f := Lib.hid f1
        have S1 := Lib.hid s1
        have R1 := Lib.hid r1
        have DW1 := Lib.hid dW1
        clear kw d1 f1 s1 r1 dW1 q1
        go_wp2_with fail
        refine KW.out.mono ?_
        rintro e W2 ⟨vb, rfl, r2, F2, d2, f2, s2⟩
        obtain ⟨ba, bn, bc, rfl, -, -, -⟩ := r2.shape
        have hfw : ∀ i, Fw i → i < wr.heap.size := fun i hi => (DW0.out.own i hi).2
        have ra := (R1.out.fr2 f2 (fun i hi => Nat.lt_of_lt_of_le (hfw i hi) hb1)).frs
        have rb := r2.frs
        have hdj1 : ∀ i, F1 i → ¬ Fw i := fun i hi hw => by rcases S1.out i hi with h | h; exact HDJ0.out i h hw; have := hfw i hw; omega
        have dF2 := D1.out.fr f2 hdj1
        have hdj2 : ∀ i, F1 i → ¬ F2 i := fun i hi hw => by rcases s2 i hw with h | h; exact hdj1 i hi h; have := (D1.out.own i hi).2; omega
        obtain ⟨hi1, hi2, hi3⟩ := HIV0.out
        have heq : (if over then [] else shF (walkL false B 0).2.2 (walkL true (B.drop (walkL false B 0).2.2) 0).1) = fdEnd K n over := by
          unfold fdEnd; rw [← hi1, ← hi2]
        rw [heq] at rb
        obtain ⟨fs, hfs⟩ : ∃ fs, fs = fdEnd K n over := ⟨_, rfl⟩
        rw [← hfs] at ra rb
        have RA := Lib.hid ra
        have RB := Lib.hid rb
        have DF := Lib.hid dF2
        have DW := Lib.hid d2
        have HDJ := Lib.hid hdj2
        have HIV := HIV0
        have HBL := HB3
        have HSU := HKK
        obtain ⟨H, hH⟩ : ∃ H : Nat, H = 0 := ⟨_, rfl⟩
        obtain ⟨CM, hCM⟩ : ∃ CM, CM = B.length := ⟨_, rfl⟩
        have HCM : RowKit.Hid (B.length = CM) := hCM.symm
        have G2 : RowKit.Hid (Grew w1 W2) := f2.grew (F1f.out.grew GR.out (fun i hi => (DF0.out.own i hi).1)) (fun i hi => (DW0.out.own i hi).1)
        obtain ⟨ov, hov⟩ : ∃ ov, ov = true := ⟨_, rfl⟩
        have HH1 : RowKit.Hid ((if ov then 0 else K.length : Nat) = H) := by rw [hov]; exact hH.symm
        have HH2 : RowKit.Hid ((if ov then 0 else B.length - (walkL false B 0).2.2 : Nat) = H) := by rw [hov]; exact hH.symm
        rw [← hov] at DF DW
        clear r2 ra rb hdj1 hdj2 dF2 d2 f2 s2 hi1 hi2 hi3 heq hfs hH hov x0 x1 t2
        rw [HCM.out]
        clear hCM
        -- both have been asked: what they told, and what they hold
        have gc : Grew W2 W2.drew := Drew.grew ⟨1, rfl⟩
        have kS := Lib.hid (r14same_any fs fs _ _ W2.drew (RA.out.grew gc) (RB.out.grew gc))
        have kH : RowKit.Hid (∀ W, Grew W2 W → Calls Try.prog 39 #[.pointer (some ⟨pf, 0, none⟩)] W fun e w' => e = .returned (.int .i64 (H : Nat)) ∧ W = w') := by
          intro W hW
          have := fheld_any _ _ _ _ _ _ W (DF.out.grew hW)
          rwa [HH1.out] at this
        have kR : RowKit.Hid (∀ W, Grew W2 W → Calls Try.prog 40 #[.pointer (some ⟨pw, 0, none⟩)] W fun e w' => e = .returned (.int .i64 (H : Nat)) ∧ Grew W w') := by
          intro W hW
          have := r15held_any _ _ _ _ _ _ W (DW.out.grew hW) (by have := HBL.out; omega)
          rwa [HH2.out] at this
        have kC : RowKit.Hid (∀ W, Grew W2 W → Calls Try.prog 41 #[.pointer (some ⟨pf, 0, none⟩)] W fun e w' => e = .returned (.int .i64 (CM : Nat)) ∧ Drew W w') := by
          intro W hW
          have := fcame_any _ _ _ _ _ _ W (DF.out.grew hW) (by have := HBL.out; have := HIV.out.le; omega) (by have := HBL.out; have := HIV.out.le; omega)
          rwa [HIV.out.le.2, HCM.out] at this
        have kO : RowKit.Hid (∀ W, Grew W2 W → Calls Try.prog 42 #[.pointer (some ⟨pf, 0, none⟩)] W fun e w' => e = .returned (.bool ov) ∧ W = w') := fun W hW => fover_any _ _ _ _ _ _ W (DF.out.grew hW)
        obtain ⟨kwv, kw1, -, -, -⟩ := DW.out
        obtain ⟨-, -, y2, -, -, -⟩ := cells3 kw1
        have hHH : ((H : Int) != (H : Int)) = false := by simp
        have hCC : ((CM : Int) != (CM : Int)) = false := by simp
        have hOO : (ov != ov) = false := by simp
        have hfs : (fs == fs) = true := by simp
        rw [hfs] at kS
        clear kw1 hfs
        go_wp2
        go_region_held3 (fun W => W.cell? ⟨pw, 2, none⟩ = some (.bool ov)) (first | go_keep | exact j0) ((first
          | (go_at_call 20; refine kS.out.mono ?_; rintro e5 W5 ⟨rfl, g5⟩; have gc := gc.trans g5; have j0 := (below_ext gc) _ _ y2)
          | (go_at_call 39; refine (kH.out _ gc).mono ?_; rintro e6 W6 ⟨rfl, rfl⟩)
          | (go_at_call 40; refine (kR.out _ gc).mono ?_; rintro e7 W7 ⟨rfl, g7⟩; have gc := gc.trans g7; have j0 := (below_ext gc) _ _ y2)
          | (go_at_call 41; refine (kC.out _ gc).mono ?_; rintro e8 W8 ⟨rfl, d8⟩; have gc := gc.trans d8.grew; have j0 := (below_ext gc) _ _ y2)
          | (go_at_call 42; refine (kO.out _ gc).mono ?_; rintro e9 W9 ⟨rfl, rfl⟩)))
        go_wp2
        go_roundw
        case rel => exact ⟨k + 1, _, _, _, _, ov, _, _, by omega, by go_num, by rw [HCM.out], DF.out.grew gc, DW.out.grew gc, HDJ.out, HIV.out, by have := HBL.out; have := HSU.out; omega, by have := HBL.out; omega, G2.out.trans gc⟩
        case measure => simp [intOf]; omega

      | false =>
        -- a piece comes
        have hgs := fInv.step m HIV0.out
        obtain ⟨B', hB'⟩ : ∃ X, X = if over then B else B ++ m := ⟨_, rfl⟩
        obtain ⟨K', hK'⟩ : ∃ X, X = fdK K m over := ⟨_, rfl⟩
        obtain ⟨n', hn'⟩ : ∃ X, X = fdN K m n over := ⟨_, rfl⟩
        obtain ⟨told', ht'⟩ : ∃ X, X = if over then told else (walkL false (B ++ m) 0).1.length := ⟨_, rfl⟩
        obtain ⟨fs, hfs⟩ : ∃ X, X = fdOut K m n over := ⟨_, rfl⟩
        have hfs2 : (if over then [] else (walkL false (B ++ m) 0).1.drop told) = fs := by
          rw [hfs]
          cases over with
          | true => rfl
          | false => exact hgs.2.1.symm
        have hiv' : fInv B' K' n' told' := by
          rw [hB', hK', hn', ht']
          cases over with
          | true => exact HIV0.out
          | false => exact hgs.1
        have hbl' : B'.length ≤ 3000 := by
          rw [hB']; cases over with
          | true => exact HB3.out
          | false => simp only [Bool.false_eq_true, if_false, List.length_append]; exact HML3.out
        have hsu' : B'.length ≤ sumL (A.take (k + 1)) := by
          rw [hB']; cases over with
          | true => exact HKK.out
          | false => simp only [Bool.false_eq_true, if_false, List.length_append]; exact HML2.out
        have hcm' : B'.length = if over then B.length else B.length + mn := by
          rw [hB']; cases over with
          | true => rfl
          | false => simp only [Bool.false_eq_true, if_false, List.length_append]; rw [HMN.out]
        have kf := fun W (hW : Drew wr W) => ffeed_any w1.heap.size Ff pf K m n over (.slice ma mn mc) W (DF0.out.grew hW.grew) (X2.out.grew (GR.out.trans hW.grew)) (by have := HIV0.out.le; have := HB3.out; omega) (by have := HIV0.out.le; have := HML3.out; omega)
        have kw := fun W1 F' (g : Grew w1 W1) (d : FdS 59 w1.heap.size F' W1 pw B told over) => r15feed_any w1.heap.size F' pw B m told over (.slice ma mn mc) W1 d (X2.out.grew g) (by have := HML3.out; omega) hgs.2.2
        simp only [← hK', ← hn', ← hfs] at kf
        simp only [← hB', ← ht', hfs2] at kw
        have KF := Lib.hid kf
        have KW := Lib.hid kw
        have HIV := Lib.hid hiv'
        have HBL := Lib.hid hbl'
        have HSU := Lib.hid hsu'
        obtain ⟨CM, hCM⟩ : ∃ CM, CM = B'.length := ⟨_, rfl⟩
        have HCM : RowKit.Hid (B'.length = CM) := hCM.symm
        rw [← hCM] at hcm'
        have HCV := Lib.hid hcm'
        clear hcm' hCM hgs hB' hK' hn' ht' hfs hfs2 hiv' hbl' hsu' kf kw
        go_wp2
        go_region_held3 (fun W => W.cell? ⟨b, o + k * 2 + 1, none⟩ = some (.slice ma mn mc)) (first | go_keep | exact j0) ((first
          | (go_at_call 37; refine (KF.out _ ⟨1, rfl⟩).mono ?_; rintro e W1 ⟨va, rfl, F1, b1, d1, f1, s1, hb1, r1, q1⟩; obtain ⟨aa, an, ac, rfl, -, -, -⟩ := r1.shape
             have gW1 : Grew w1 W1 := f1.grew (GR.out.trans (Drew.grew ⟨1, rfl⟩)) (fun i hi => (DF0.out.own i hi).1)
             have j0 := (below_ext gW1) _ _ X1.out)
          | (go_at_call 38
             refine (KW.out W1 Fw gW1 ((DW0.out.grew (Drew.grew ⟨1, rfl⟩)).fr f1 (fun k hk hf => HDJ0.out k hf hk))).mono ?_; rintro e W2 ⟨vb, rfl, r2, F2, d2, f2, s2⟩; obtain ⟨ba, bn, bc, rfl, -, -, -⟩ := r2.shape
             have gW2 : Grew w1 W2 := f2.grew gW1 (fun i hi => (DW0.out.own i hi).1)
             have j0 := (below_ext gW2) _ _ X1.out)))
        have G2 := Lib.hid gW2
        have hsd : (wr.drewN 1).heap.size = wr.heap.size := rfl
        have hfw : ∀ i, Fw i → i < wr.heap.size := fun i hi => (DW0.out.own i hi).2
        have ra := (r1.fr2 f2 (fun i hi => Nat.lt_of_lt_of_le (hfw i hi) (by have := hb1; omega))).frs
        have hdj1 : ∀ i, F1 i → ¬ Fw i := fun i hi hw => by rcases s1 i hi with h | h; exact HDJ0.out i h hw; have := hfw i hw; omega
        have dF2 := d1.fr f2 hdj1
        have hdj2 : ∀ i, F1 i → ¬ F2 i := fun i hi hw => by rcases s2 i hw with h | h; exact hdj1 i hi h; have := (d1.own i hi).2; omega
        have RA := Lib.hid ra
        have RB := Lib.hid r2
        have DF := Lib.hid dF2
        have DW := Lib.hid d2
        have HDJ := Lib.hid hdj2
        obtain ⟨ov, hov⟩ : ∃ ov, ov = over := ⟨_, rfl⟩
        rw [← hov] at DF DW
        obtain ⟨H, hH⟩ : ∃ H : Nat, H = if ov then 0 else K'.length := ⟨_, rfl⟩
        have HH1 : RowKit.Hid ((if ov then 0 else K'.length : Nat) = H) := hH.symm
        have HH2 : RowKit.Hid ((if ov then 0 else B'.length - (walkL false B' 0).2.2 : Nat) = H) := by
          rw [hH]
          obtain ⟨u1, u2, -⟩ := HIV.out
          cases ov with
          | true => rfl
          | false => simp only [Bool.false_eq_true, if_false]; rw [u2, List.length_drop, u1]; exact Lib.hid rfl
        clear x0 x1 t2 d1 f1 s1 hb1 r1 q1 gW1 gW2 ra r2 d2 f2 s2 hdj1 hdj2 dF2 hov hH hsd hfw
        cases over with
        | true =>
          clear j0
          go_wp2
          rw [← show CM = B.length from HCV.out]
          -- both have been asked: what they told, and what they hold
          have gc : Grew W2 W2.drew := Drew.grew ⟨1, rfl⟩
          have kS := Lib.hid (r14same_any fs fs _ _ W2.drew (RA.out.grew gc) (RB.out.grew gc))
          have kH : RowKit.Hid (∀ W, Grew W2 W → Calls Try.prog 39 #[.pointer (some ⟨pf, 0, none⟩)] W fun e w' => e = .returned (.int .i64 (H : Nat)) ∧ W = w') := by
            intro W hW
            have := fheld_any _ _ _ _ _ _ W (DF.out.grew hW)
            rwa [HH1.out] at this
          have kR : RowKit.Hid (∀ W, Grew W2 W → Calls Try.prog 40 #[.pointer (some ⟨pw, 0, none⟩)] W fun e w' => e = .returned (.int .i64 (H : Nat)) ∧ Grew W w') := by
            intro W hW
            have := r15held_any _ _ _ _ _ _ W (DW.out.grew hW) (by have := HBL.out; omega)
            rwa [HH2.out] at this
          have kC : RowKit.Hid (∀ W, Grew W2 W → Calls Try.prog 41 #[.pointer (some ⟨pf, 0, none⟩)] W fun e w' => e = .returned (.int .i64 (CM : Nat)) ∧ Drew W w') := by
            intro W hW
            have := fcame_any _ _ _ _ _ _ W (DF.out.grew hW) (by have := HBL.out; have := HIV.out.le; omega) (by have := HBL.out; have := HIV.out.le; omega)
            rwa [HIV.out.le.2, HCM.out] at this
          have kO : RowKit.Hid (∀ W, Grew W2 W → Calls Try.prog 42 #[.pointer (some ⟨pf, 0, none⟩)] W fun e w' => e = .returned (.bool ov) ∧ W = w') := fun W hW => fover_any _ _ _ _ _ _ W (DF.out.grew hW)
          obtain ⟨kwv, kw1, -, -, -⟩ := DW.out
          obtain ⟨-, -, y2, -, -, -⟩ := cells3 kw1
          have hHH : ((H : Int) != (H : Int)) = false := by simp
          have hCC : ((CM : Int) != (CM : Int)) = false := by simp
          have hOO : (ov != ov) = false := by simp
          have hfs : (fs == fs) = true := by simp
          rw [hfs] at kS
          clear kw1 hfs
          go_wp2
          go_region_held3 (fun W => W.cell? ⟨pw, 2, none⟩ = some (.bool ov)) (first | go_keep | exact j0) ((first
            | (go_at_call 20; refine kS.out.mono ?_; rintro e5 W5 ⟨rfl, g5⟩; have gc := gc.trans g5; have j0 := (below_ext gc) _ _ y2)
            | (go_at_call 39; refine (kH.out _ gc).mono ?_; rintro e6 W6 ⟨rfl, rfl⟩)
            | (go_at_call 40; refine (kR.out _ gc).mono ?_; rintro e7 W7 ⟨rfl, g7⟩; have gc := gc.trans g7; have j0 := (below_ext gc) _ _ y2)
            | (go_at_call 41; refine (kC.out _ gc).mono ?_; rintro e8 W8 ⟨rfl, d8⟩; have gc := gc.trans d8.grew; have j0 := (below_ext gc) _ _ y2)
            | (go_at_call 42; refine (kO.out _ gc).mono ?_; rintro e9 W9 ⟨rfl, rfl⟩)))
          go_wp2
          go_roundw
          case rel => exact ⟨k + 1, _, _, _, _, ov, _, _, by omega, by go_num, by rw [HCM.out], DF.out.grew gc, DW.out.grew gc, HDJ.out, HIV.out, by have := HBL.out; have := HSU.out; omega, by have := HBL.out; omega, G2.out.trans gc⟩
          case measure => simp [intOf]; omega
        | false =>
          go_wp2
          rw [show (B.length : Int) + (mn : Int) = (CM : Int) by have := HCV.out; simp only [Bool.false_eq_true, if_false] at this; omega]
          clear j0
          -- both have been asked: what they told, and what they hold
          have gc : Grew W2 W2.drew := Drew.grew ⟨1, rfl⟩
          have kS := Lib.hid (r14same_any fs fs _ _ W2.drew (RA.out.grew gc) (RB.out.grew gc))
          have kH : RowKit.Hid (∀ W, Grew W2 W → Calls Try.prog 39 #[.pointer (some ⟨pf, 0, none⟩)] W fun e w' => e = .returned (.int .i64 (H : Nat)) ∧ W = w') := by
            intro W hW
            have := fheld_any _ _ _ _ _ _ W (DF.out.grew hW)
            rwa [HH1.out] at this
          have kR : RowKit.Hid (∀ W, Grew W2 W → Calls Try.prog 40 #[.pointer (some ⟨pw, 0, none⟩)] W fun e w' => e = .returned (.int .i64 (H : Nat)) ∧ Grew W w') := by
            intro W hW
            have := r15held_any _ _ _ _ _ _ W (DW.out.grew hW) (by have := HBL.out; omega)
            rwa [HH2.out] at this
          have kC : RowKit.Hid (∀ W, Grew W2 W → Calls Try.prog 41 #[.pointer (some ⟨pf, 0, none⟩)] W fun e w' => e = .returned (.int .i64 (CM : Nat)) ∧ Drew W w') := by
            intro W hW
            have := fcame_any _ _ _ _ _ _ W (DF.out.grew hW) (by have := HBL.out; have := HIV.out.le; omega) (by have := HBL.out; have := HIV.out.le; omega)
            rwa [HIV.out.le.2, HCM.out] at this
          have kO : RowKit.Hid (∀ W, Grew W2 W → Calls Try.prog 42 #[.pointer (some ⟨pf, 0, none⟩)] W fun e w' => e = .returned (.bool ov) ∧ W = w') := fun W hW => fover_any _ _ _ _ _ _ W (DF.out.grew hW)
          obtain ⟨kwv, kw1, -, -, -⟩ := DW.out
          obtain ⟨-, -, y2, -, -, -⟩ := cells3 kw1
          have hHH : ((H : Int) != (H : Int)) = false := by simp
          have hCC : ((CM : Int) != (CM : Int)) = false := by simp
          have hOO : (ov != ov) = false := by simp
          have hfs : (fs == fs) = true := by simp
          rw [hfs] at kS
          clear kw1 hfs
          go_wp2
          go_region_held3 (fun W => W.cell? ⟨pw, 2, none⟩ = some (.bool ov)) (first | go_keep | exact j0) ((first
            | (go_at_call 20; refine kS.out.mono ?_; rintro e5 W5 ⟨rfl, g5⟩; have gc := gc.trans g5; have j0 := (below_ext gc) _ _ y2)
            | (go_at_call 39; refine (kH.out _ gc).mono ?_; rintro e6 W6 ⟨rfl, rfl⟩)
            | (go_at_call 40; refine (kR.out _ gc).mono ?_; rintro e7 W7 ⟨rfl, g7⟩; have gc := gc.trans g7; have j0 := (below_ext gc) _ _ y2)
            | (go_at_call 41; refine (kC.out _ gc).mono ?_; rintro e8 W8 ⟨rfl, d8⟩; have gc := gc.trans d8.grew; have j0 := (below_ext gc) _ _ y2)
            | (go_at_call 42; refine (kO.out _ gc).mono ?_; rintro e9 W9 ⟨rfl, rfl⟩)))
          go_wp2
          go_roundw
          case rel => exact ⟨k + 1, _, _, _, _, ov, _, _, by omega, by go_num, by rw [HCM.out], DF.out.grew gc, DW.out.grew gc, HDJ.out, HIV.out, by have := HBL.out; have := HSU.out; omega, by have := HBL.out; omega, G2.out.trans gc⟩
          case measure => simp [intOf]; omega
    · obtain rfl : k = A.length := by omega
      clear dF dW
      go_wp2
      go_ret
      exact ⟨rfl, g1.trans gr⟩
end Go.Proofs.Ytigaanedkobokaa
