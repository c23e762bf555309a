/- The law FeederHolds returns true: its walk. -/
import Derived.Test.YthjfgefkahgenaaFe8
namespace Go.Proofs.Ythjfgefkahgenaa
open Go Go.RowKit Go.Shelf

theorem fInv.held {B K : List UInt8} {n told : Nat} (h : fInv B K n told) : K.length < 8201 := by
  obtain ⟨h1, h2, _⟩ := h
  obtain ⟨_, q2, _, q4⟩ := walk_from false B 0
  rw [h2]
  rcases q4 with q | q
  · rw [List.length_drop]; omega
  · rw [Nat.sub_zero, ← h1] at q; exact ferr_short q

set_option maxRecDepth 100000 in
set_option maxHeartbeats 8000000 in
theorem holds_walk (l : List UInt8) (T : Nat) (piece : Int) (v : Value) (w : World) (hb : Bs w v l) (hT : T ≤ 255) (hp1 : -9223372036854775808 ≤ piece) (hp2 : piece ≤ 9223372036854775807) :
    Calls Try.prog 7 #[v, .int .u8 T, .int .i64 piece] w fun e w' => e = .returned (.bool true) ∧ Grew w w' := by
  obtain ⟨a, c, rfl, h1, h2, -, hcc⟩ := hb.open
  unfold maxLen at h2
  by_cases hg : ¬ (l.length ≤ 2000 ∧ 1 ≤ piece ∧ T ≤ 20)
  · have y1 : decide ((l.length : Int) > 2000) = true ∨ (decide ((l.length : Int) > 2000) = false ∧ decide (piece < 1) = true) ∨ (decide ((l.length : Int) > 2000) = false ∧ decide (piece < 1) = false ∧ decide ((T : Int) > 20) = true) := by
      simp only [decide_eq_true_eq, decide_eq_false_iff_not]; omega
    clear hb hcc
    go_enter Try.func7, Try.ntmps7
    go_wp2_with fail
    refine (live15_any _).mono ?_
    rintro e w1 ⟨rfl, g1⟩
    clear hg
    rcases y1 with y | ⟨y, y2⟩ | ⟨y, y2, y3⟩
    all_goals go_wp2
    all_goals go_ret
    all_goals exact ⟨rfl, g1⟩
  have hg' : l.length ≤ 2000 ∧ 1 ≤ piece ∧ T ≤ 20 := Decidable.not_not.1 hg
  obtain ⟨hl, hp, ht⟩ := hg'
  have HB := Lib.hid hb
  have HCC := Lib.hid hcc
  have y1 : decide ((l.length : Int) > 2000) = false := by simp; omega
  have y2 : decide (piece < 1) = false := by simp; omega
  have y3 : decide ((T : Int) > 20) = false := by simp; omega
  have y1b : decide (2000 < (l.length : Int)) = false := by simp; omega
  have y1c : decide (2000 < l.length) = false := by simp; omega
  have y3b : decide (20 < (T : Int)) = false := by simp; omega
  have y3c : decide (20 < T) = false := by simp; omega
  clear hb hcc hg
  go_enter Try.func7, Try.ntmps7
  go_wp2_with fail
  refine (live15_any _).mono ?_
  rintro e w1 ⟨rfl, g1⟩
  have B1 := Lib.hid (HB.out.grew g1)
  go_wp2_with fail
  refine (fnew_any _).mono ?_
  rintro e w3 ⟨rfl, d3, g3⟩
  obtain ⟨pf, hpf⟩ : ∃ pf, pf = w1.heap.size := ⟨_, rfl⟩
  have D3 : RowKit.Hid (FdS 77 w1.heap.size (· = pf) w3 pf [] 0 false) := by rw [hpf]; exact Lib.hid d3
  have HPF := Lib.hid hpf
  clear d3
  go_wp2
  rw [← hpf]
  clear hpf
  go_loopw [8] (fun i wr => ∃ (t : Nat) (B K : List UInt8) (n told : Nat) (F : Nat → Prop), t ≤ T ∧ i = .int .u8 t ∧ FdS 77 w1.heap.size F wr pf K n false ∧ fInv B K n told ∧ B.length ≤ t * 2000 ∧ Grew w1 wr) (fun i _ => T - (intOf i).toNat)
  case atStart => exact ⟨0, [], [], 0, 0, _, Nat.zero_le _, rfl, D3.out, fInv.nil, Nat.zero_le _, g3⟩
  case round =>
    obtain ⟨t, B, K, n, told, F, htT, rfl, dF, hiv, hbl, gr⟩ := hrel
    by_cases hlt : t < T
    · have TT := Lib.hid htT
      have hlt' : (t : Int) < (T : Int) := by omega
      have dF0 := Lib.hid dF
      have hiv0 := Lib.hid hiv
      have hbl0 := Lib.hid hbl
      have gr0 := Lib.hid gr
      clear dF hiv hbl
      go_wp2
      go_loopw [9, 10] (fun av nv wr2 => ∃ (at_ nn : Nat) (B K : List UInt8) (n told : Nat) (F : Nat → Prop), at_ ≤ l.length ∧ nn ≤ 2000 ∧ av = .int .i64 at_ ∧ nv = .int .i64 nn ∧ FdS 77 w1.heap.size F wr2 pf K n false ∧ fInv B K n told ∧ B.length ≤ t * 2000 + at_ ∧ Grew w1 wr2) (fun _ nv _ => 2000 - (intOf nv).toNat)
      case atStart => exact ⟨0, 0, B, K, n, told, F, Nat.zero_le _, Nat.zero_le _, rfl, rfl, dF0.out, hiv0.out, hbl0.out, gr0.out⟩
      case round =>
        obtain ⟨at_, nn, B2, K2, n2, told2, F2, hat, hnn, rfl, rfl, dF2, hiv2, hbl2, gr2⟩ := hrel
        by_cases hc1 : nn < 2000
        · by_cases hc2 : at_ < l.length
          · have hc1' : (nn : Int) < 2000 := by omega
            have hc2' : (at_ : Int) < (l.length : Int) := by omega
            obtain ⟨to, hto⟩ : ∃ to : Nat, min ((at_ : Int) + min piece 2000) (l.length : Int) = (to : Int) := ⟨(min ((at_ : Int) + min piece 2000) (l.length : Int)).toNat, by omega⟩
            have hlo : at_ < to := by omega
            have hhi : to ≤ l.length := by omega
            obtain ⟨b, o, rfl, -⟩ := HCC.out (by omega)
            have hcut := bs_cut (B1.out.grew gr2) at_ to (by omega) hhi
            have hml : ((l.drop at_).take (to - at_)).length = to - at_ := by rw [List.length_take, List.length_drop]; omega
            have hst := fInv.step ((l.drop at_).take (to - at_)) hiv2
            have hB3 : (B2 ++ (l.drop at_).take (to - at_)).length ≤ t * 2000 + to := by rw [List.length_append, hml]; omega
            have htt : t ≤ 20 := by have := TT.out; omega
            have hle2 := hiv2.le
            have KM := Lib.hid (ffeed_any w1.heap.size F2 pf K2 _ n2 false _ wr dF2 hcut (by omega) (by rw [hml]; omega))
            have hiv3 := hst.1
            clear hst hcut hml
            obtain ⟨B3, hB3'⟩ : ∃ B3, B3 = B2 ++ (l.drop at_).take (to - at_) := ⟨_, rfl⟩
            obtain ⟨K3, hK3⟩ : ∃ K3, K3 = fdK K2 ((l.drop at_).take (to - at_)) false := ⟨_, rfl⟩
            obtain ⟨n3, hn3⟩ : ∃ n3, n3 = fdN K2 ((l.drop at_).take (to - at_)) n2 false := ⟨_, rfl⟩
            obtain ⟨fs, hfs⟩ : ∃ fs, fs = fdOut K2 ((l.drop at_).take (to - at_)) n2 false := ⟨_, rfl⟩
            rw [← hB3', ← hK3, ← hn3] at hiv3
            rw [← hB3'] at hB3
            rw [← hK3, ← hn3, ← hfs] at KM
            have HIV := Lib.hid hiv3
            have HB3 := Lib.hid hB3
            have DF2 := Lib.hid dF2
            have z0 : (0 : Int) ≤ (at_ : Int) := by omega
            have z1 : (at_ : Int) ≤ (to : Int) := by omega
            have z2 : (to : Int) ≤ (c : Int) := by omega
            have z3 : ¬ c = at_ := by omega
            have z4 : ((to : Int)).toNat = to := by omega
            clear hiv3 hB3 dF2 hiv2 hbl2 hB3' hK3 hn3 hfs hle2
            go_wp2_with fail
            refine KM.out.mono ?_
            rintro e w4 ⟨va, rfl, F3, b3, d3, f3, s3, hb3, r3, q3⟩
            have g4 : Grew w1 w4 := f3.grew gr2 (fun i hi => (DF2.out.own i hi).1)
            have hkk := HIV.out.held
            have hle3 := HIV.out.le
            have hb3' := HB3.out
            have kh := fheld_any _ _ _ _ _ _ w4 d3
            simp only [Bool.false_eq_true, if_false] at kh
            have KH := Lib.hid kh
            have kc := fcame_any _ _ _ _ _ _ w4 d3 (by omega) (by omega)
            obtain ⟨CM, hCM⟩ : ∃ CM, CM = n3 + K3.length := ⟨_, rfl⟩
            rw [← hCM] at kc
            obtain ⟨H, hH⟩ : ∃ H, H = K3.length := ⟨_, rfl⟩
            rw [← hH] at hkk hCM KH
            have KC := Lib.hid kc
            have y1 : decide ((H : Int) ≥ 8201) = false := by simp; omega
            have y1b : decide (8201 ≤ (H : Int)) = false := by simp; omega
            have y1c : decide (8201 ≤ H) = false := by simp; omega
            have y2 : decide ((H : Int) > (CM : Int)) = false := by simp; omega
            have y2b : decide ((CM : Int) < (H : Int)) = false := by simp; omega
            have y2c : decide (CM < H) = false := by simp; omega
            have D3 := Lib.hid d3
            clear d3 f3 s3 hb3 r3 q3 kh kc hCM hH hle3 hkk hb3'
            go_wp2_with fail
            refine KH.out.mono ?_
            rintro e w5 ⟨rfl, rfl⟩
            go_wp2_with fail
            refine KH.out.mono ?_
            rintro e w5 ⟨rfl, rfl⟩
            go_wp2_with fail
            refine KC.out.mono ?_
            rintro e w6 ⟨rfl, d6⟩
            have D6 := Lib.hid (D3.out.grew d6.grew)
            go_wp2
            go_roundw
            case rel => exact ⟨to, nn + 1, B3, K3, n3, _, _, hhi, by omega, rfl, by go_num, D6.out, HIV.out, HB3.out, g4.trans d6.grew⟩
            case measure => simp [intOf]; omega
          · have hc1' : (nn : Int) < 2000 := by omega
            have hc2' : ¬ (at_ : Int) < (l.length : Int) := by omega
            have HIV := Lib.hid hiv2
            have DF := Lib.hid dF2
            clear hiv2 dF2
            go_wp2
            go_roundw
            case rel => exact ⟨t + 1, B2, K2, n2, told2, F2, by omega, by go_num, DF.out, HIV.out, by omega, gr2⟩
            case measure => simp [intOf]; omega
        · have hc1' : ¬ (nn : Int) < 2000 := by omega
          have HIV := Lib.hid hiv2
          have DF := Lib.hid dF2
          clear hiv2 dF2
          go_wp2
          go_roundw
          case rel => exact ⟨t + 1, B2, K2, n2, told2, F2, by omega, by go_num, DF.out, HIV.out, by omega, gr2⟩
          case measure => simp [intOf]; omega
    · obtain rfl : t = T := by omega
      have hle := hiv.le
      have hnb : n ≤ 40000 := by omega
      have hKb : K.length ≤ 40000 := by omega
      have KE := Lib.hid (fend_any w1.heap.size F pf K n false wr dF (by omega) (by omega))
      have DF := Lib.hid dF
      clear dF hiv hbl
      go_wp2_with fail
      refine KE.out.mono ?_
      rintro e w4 ⟨va, rfl, F3, b3, d3, f3, s3, hb3, r3, q3⟩
      have g4 : Grew w1 w4 := f3.grew gr (fun i hi => (DF.out.own i hi).1)
      have kh := fheld_any _ _ _ _ _ _ w4 d3
      simp only [if_true] at kh
      have KH := Lib.hid kh
      have KO := Lib.hid (fover_any _ _ _ _ _ _ w4 d3)
      have KF := Lib.hid (ffeed_any w1.heap.size F3 pf K l n true _ w4 d3 (B1.out.grew g4) (by omega) (by omega))
      have D3 := Lib.hid d3
      clear d3 f3 s3 hb3 r3 q3 kh hle
      go_wp2_with fail
      refine KH.out.mono ?_
      rintro e w5 ⟨rfl, rfl⟩
      go_wp2_with fail
      refine KO.out.mono ?_
      rintro e w6 ⟨rfl, rfl⟩
      go_wp2_with fail
      refine KF.out.mono ?_
      rintro e w7 ⟨vb, rfl, F4, b4, d4, f4, s4, hb4, r4, q4⟩
      obtain ⟨ba, bn, bc, rfl, hn, -, -⟩ := r4.frs.shape
      have hn' : bn = 0 := hn
      subst hn'
      have g7 : Grew w1 w7 := f4.grew g4 (fun i hi => (D3.out.own i hi).1)
      clear d4 f4 s4 hb4 r4 q4 hn
      go_wp2
      go_ret
      exact ⟨rfl, g1.trans g7⟩
end Go.Proofs.Ythjfgefkahgenaa
