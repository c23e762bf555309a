/- FrameReads, FramePuts: the walks. -/
import Derived.Test.YtcibhkiddeggmaaFc1
namespace Go.Proofs.Ytcibhkiddeggmaa
open Go Go.RowKit Go.Shelf
attribute [local go_sem] Oper.semAt_some

set_option maxRecDepth 100000 in
set_option maxHeartbeats 8000000 in
theorem freads_walk (l : List UInt8) (v : Value) (w : World) (hb : Bs w v l) : Calls Try.prog 4 #[v] w fun e w' => e = .returned (.bool true) ∧ Grew w w' := by
  obtain ⟨a, c, rfl⟩ := bs_len hb
  have HB := Lib.hid hb
  clear hb
  go_enter Try.func4, Try.ntmps4
  go_wp2_with fail
  refine (live13_any w).mono ?_
  rintro e w1 ⟨rfl, g1⟩
  by_cases hl : 9000 < l.length
  · have hd : decide ((l.length : Int) > 9000) = true := by simp; omega
    clear hl
    go_wp2
    go_ret
    exact ⟨rfl, g1⟩
  have hd : decide ((l.length : Int) > 9000) = false := by simp; omega
  have KF := Lib.hid (fun W (g : Grew w W) => fread_any l _ W (HB.out.grew g) (by omega))
  have KR := Lib.hid (fun W (g : Grew w W) => r13read_any l _ W (HB.out.grew g) (by omega))
  obtain ⟨R, hR⟩ : ∃ R, R = fread l := ⟨_, rfl⟩
  rw [← hR] at KF KR
  have G1 := Lib.hid g1
  clear hl hR g1
  go_wp2_with fail
  refine (KF.out _ G1.out).mono ?_
  rintro e w2 ⟨v2, rfl, hp2, g2⟩
  obtain ⟨a2, n2, c2, rfl, hn2⟩ := bs_shape hp2.1
  obtain ⟨wa, hwa⟩ : ∃ wa, wa = w2.alloc (.cells #[.int .u8 (R.1.1.toNat : Int), .slice a2 n2 c2] 24) := ⟨_, rfl⟩
  have ga : Grew w2 wa := by rw [hwa]; exact grew_alloc _ _
  have ka : Blk wa w2.heap.size 24 #[.int .u8 (R.1.1.toNat : Int), .slice a2 n2 c2] := by rw [hwa]; exact Blk.new _ _ _
  have KA := Lib.hid ka
  have HP2 := Lib.hid (hp2.1.grew ga)
  have G2 := Lib.hid ((G1.out.trans g2).trans ga)
  clear hp2 g2 ga ka
  go_upto_region 6 with (fail)
  rw [← hwa]
  clear hwa
  go_wp2_with fail
  refine (KR.out _ G2.out).mono ?_
  rintro e w3 ⟨v3, rfl, hp3, g3⟩
  obtain ⟨a3, n3, c3, rfl, hn3⟩ := bs_shape hp3.1
  obtain ⟨wb, hwb⟩ : ∃ wb, wb = w3.alloc (.cells #[.int .u8 (R.1.1.toNat : Int), .slice a3 n3 c3] 24) := ⟨_, rfl⟩
  have gb : Grew w3 wb := by rw [hwb]; exact grew_alloc _ _
  have kb : Blk wb w3.heap.size 24 #[.int .u8 (R.1.1.toNat : Int), .slice a3 n3 c3] := by rw [hwb]; exact Blk.new _ _ _
  have KB := Lib.hid kb
  have KA2 := Lib.hid ((KA.out.grew g3).grew gb)
  have KS := Lib.hid (r13same_any R.1 R.1 _ _ wb ((HP2.out.grew g3).grew gb) (hp3.1.grew gb))
  rw [beq_self_eq_true] at KS
  have G3 := Lib.hid ((G2.out.trans g3).trans gb)
  clear hp3 g3 gb kb
  go_upto_region 7 with (fail)
  rw [← hwb]
  clear hwb
  obtain ⟨x0, x1, -, -⟩ := cells2 KA2.out
  obtain ⟨y0, y1, -, -⟩ := cells2 KB.out
  go_wp2_with fail
  refine KS.out.mono ?_
  rintro e w4 ⟨rfl, g4⟩
  go_wp2
  go_ret
  exact ⟨rfl, G3.out.trans g4⟩
set_option maxRecDepth 100000 in
set_option maxHeartbeats 8000000 in
theorem fputs_walk (f : Frm) (u : Value) (m : List UInt8) (v : Value) (less : Int) (w : World) (hu : Bs w u f.2) (hb : Bs w v m) (h1 : -9223372036854775808 ≤ less) (h2 : less ≤ 9223372036854775807) :
    Calls Try.prog 3 #[frV f.1 u, v, .int .i64 less] w fun e w' => e = .returned (.bool true) ∧ Grew w w' := by
  obtain ⟨au, cu, rfl⟩ := bs_len hu
  obtain ⟨a, c, rfl⟩ := bs_len hb
  obtain ⟨W0, hW0⟩ : ∃ W0, W0 = w.alloc (.cells #[.int .u8 (f.1.toNat : Int), .slice au f.2.length cu] 24) := ⟨_, rfl⟩
  have g0 : Grew w W0 := by rw [hW0]; exact grew_alloc _ _
  have k0 : Blk W0 w.heap.size 24 #[.int .u8 (f.1.toNat : Int), .slice au f.2.length cu] := by rw [hW0]; exact Blk.new _ _ _
  have K0 := Lib.hid k0
  have G0 := Lib.hid g0
  have HU := Lib.hid hu
  have HB := Lib.hid hb
  clear k0 g0 hu hb
  go_enter Try.func3, Try.ntmps3
  go_wp2_with fail
  rw [← hW0]
  refine (live13_any _).mono ?_
  rintro e w1 ⟨rfl, g1⟩
  have K1 := Lib.hid (K0.out.grew g1)
  have G1 := Lib.hid (G0.out.trans g1)
  clear hW0 K0 G0 g1
  obtain ⟨x0, x1, -, -⟩ := cells2 K1.out
  by_cases hl : 9000 < f.2.length
  · have hd : decide ((f.2.length : Int) > 9000) = true := by simp; omega
    clear hl
    go_wp2
    go_ret
    exact ⟨rfl, G1.out⟩
  have hd : decide ((f.2.length : Int) > 9000) = false := by simp; omega
  by_cases hlm : 100 < m.length
  · have hd2 : decide ((m.length : Int) > 100) = true := by simp; omega
    clear hl hlm
    go_wp2
    go_ret
    exact ⟨rfl, G1.out⟩
  have hd2 : decide ((m.length : Int) > 100) = false := by simp; omega
  by_cases hbig : 8192 < f.2.length
  · have hq : decide ((f.2.length : Int) > 8192) = true := by simp; omega
    have KL := Lib.hid (fputlong_any f (.slice au f.2.length cu) w1 (HU.out.grew G1.out) hbig)
    have KZ := Lib.hid (fun W => fsize_any (f.2.length : Int) W (by omega) (by omega))
    have hz : fsize (f.2.length : Int) = 0 := by unfold fsize; rw [if_pos (by omega)]
    rw [hz] at KZ
    clear hl hlm hz
    go_wp2_with fail
    refine KL.out.mono ?_
    rintro e w2 ⟨rfl, g2⟩
    have K2 := Lib.hid (K1.out.grew g2)
    have G2 := Lib.hid (G1.out.trans g2)
    clear x0 x1 g2
    obtain ⟨x0, x1, -, -⟩ := cells2 K2.out
    go_wp2_with fail
    refine (KZ.out _).mono ?_
    rintro e w3 ⟨rfl, rfl⟩
    go_wp2
    go_ret
    exact ⟨rfl, G2.out⟩
  have hq : decide ((f.2.length : Int) > 8192) = false := by simp; omega
  have KP := Lib.hid (fun W (g : Grew w W) => fput_any f _ W (HU.out.grew g) (by omega))
  have KR := Lib.hid (fun W (g : Grew w W) => r13put_any f _ W (HU.out.grew g) (by omega))
  have KZ := Lib.hid (fun W => fsize_any (f.2.length : Int) W (by omega) (by omega))
  have hz : fsize (f.2.length : Int) = ((fput f).length : Int) := by unfold fsize; rw [if_neg (by omega), fput_length]; omega
  rw [hz] at KZ
  have HLM := Lib.hid hlm
  have HRP := Lib.hid (fread_put f m (by omega))
  have HRL := Lib.hid (fun k => fread_less f k (by omega))
  have hlp := fput_length f
  rw [← hlp] at HRP HRL
  have HP9 := Lib.hid (show (fput f).length ≤ 8201 by omega)
  clear hl hlm hz hlp
  obtain ⟨F, hF⟩ : ∃ F, F = fput f := ⟨_, rfl⟩
  rw [← hF] at KP KR KZ HRP HRL HP9
  clear hF
  go_wp2_with fail
  refine (KP.out _ G1.out).mono ?_
  rintro e w2 ⟨v2, rfl, ho2, g2⟩
  obtain ⟨a2, c2, rfl⟩ := bs_len (Sl.of_own ho2)
  have K2 := Lib.hid (K1.out.grew g2)
  have G2 := Lib.hid (G1.out.trans g2)
  have HO2 := Lib.hid ho2
  clear x0 x1 g2 ho2
  obtain ⟨x0, x1, -, -⟩ := cells2 K2.out
  go_wp2_with fail
  refine (KR.out _ G2.out).mono ?_
  rintro e w3 ⟨v3, rfl, ho3, g3⟩
  obtain ⟨a3, n3, c3, rfl, hn3⟩ := bs_shape (Sl.of_own ho3)
  have KS := Lib.hid (same_any F F _ _ w3 (Sl.of_own (own_grew HO2.out g3)) (Sl.of_own ho3))
  rw [beq_self_eq_true] at KS
  have K3 := Lib.hid (K2.out.grew g3)
  have G3 := Lib.hid (G2.out.trans g3)
  have HO3 := Lib.hid (own_grew HO2.out g3)
  clear x0 x1 g3 ho3
  go_wp2_with fail
  refine KS.out.mono ?_
  rintro e w4 ⟨rfl, d4⟩
  have K4 := Lib.hid (K3.out.grew d4.grew)
  have G4 := Lib.hid (G3.out.trans d4.grew)
  have HO4 := Lib.hid (own_grew HO3.out d4.grew)
  clear d4
  obtain ⟨x0, x1, -, -⟩ := cells2 K4.out
  go_wp2_with fail
  refine (KZ.out _).mono ?_
  rintro e w5 ⟨rfl, rfl⟩
  go_upto_region 10 with (fail)
  clear x0 x1
  have gA := grew_alloc w4 (.cells #[] 5)
  have ho0 : OwnB (w4.alloc (.cells #[] 5)) w4.heap.size (.slice (some ⟨w4.heap.size, 0, none⟩) 0 0) [] := World.ownsRow_lit w4 #[] 0 (Nat.le_refl _) (by unfold maxLen; omega) rfl
  have HO0 := Lib.hid ho0
  have HB4 := Lib.hid (Sl.of_own HO4.out)
  have HB4A := Lib.hid ((Sl.of_own HO4.out).grew gA)
  have GA := Lib.hid gA
  clear gA ho0
  go_wp2_with (first
    | (at_builtin; refine wpList_push2 rfl _ _ rfl w4.heap.size (.slice a6 n6 c6) ([] ++ F) rfl HO6.out _ rfl m (HB.out.grew (G4.out.trans G6.out)) (by have := HP9.out; have := HLM.out; simp; omega) G6.out.size ?_; intro v7 w7 hown7 hB7 hgb7 _; have HO7 := Lib.hid hown7; have G7 := Lib.hid (Below.trans G6.out hB7); clear hown7 hB7 hgb7; obtain ⟨a7, n7, c7, rfl, hn7⟩ := bs_shape (Sl.of_own HO7.out))
    | (at_builtin; refine wpList_push2 rfl _ _ rfl w4.heap.size (.slice (some ⟨w4.heap.size, 0, none⟩) 0 0) [] rfl HO0.out _ rfl F HB4A.out (by have := HP9.out; simp; omega) GA.out.size ?_; intro v6 w6 hown6 hB6 hgb6 _; have HO6 := Lib.hid hown6; have G6 := Lib.hid (Below.trans GA.out hB6); clear hown6 hB6 hgb6; obtain ⟨a6, n6, c6, rfl, hn6⟩ := bs_shape (Sl.of_own HO6.out)))
  have K7 := Lib.hid (K4.out.grew G7.out)
  have HB7 := Lib.hid (HB4.out.grew G7.out)
  have HG7 := Lib.hid (G4.out.trans G7.out)
  have kr := fread_any _ _ _ (Sl.of_own HO7.out) (by have := HP9.out; have := HLM.out; simp; omega)
  rw [List.nil_append, HRP.out] at kr
  have KRD := Lib.hid kr
  clear kr HO0 HO6 G6 HB4A GA HO7 G7
  refine KRD.out.mono ?_
  rintro e w8 ⟨v8, rfl, hp8, g8⟩
  obtain ⟨a8, n8, c8, rfl, hn8⟩ := bs_shape hp8.1
  obtain ⟨wa, hwa⟩ : ∃ wa, wa = w8.alloc (.cells #[.int .u8 (f.1.toNat : Int), .slice a8 n8 c8] 24) := ⟨_, rfl⟩
  have ga : Grew w8 wa := by rw [hwa]; exact grew_alloc _ _
  have ka : Blk wa w8.heap.size 24 #[.int .u8 (f.1.toNat : Int), .slice a8 n8 c8] := by rw [hwa]; exact Blk.new _ _ _
  have KA := Lib.hid ka
  have K8 := Lib.hid ((K7.out.grew g8).grew ga)
  have HB8 := Lib.hid ((HB7.out.grew g8).grew ga)
  have G8 := Lib.hid ((HG7.out.trans g8).trans ga)
  have KSM := Lib.hid (frsame_any f f _ _ wa (hp8.1.grew ga) (HU.out.grew G8.out))
  rw [beq_self_eq_true] at KSM
  clear hp8 g8 ga ka K7 HB7 HG7 KRD
  go_upto_region 11 with (fail)
  rw [← hwa]
  clear hwa
  obtain ⟨x0, x1, -, -⟩ := cells2 KA.out
  obtain ⟨y0, y1, -, -⟩ := cells2 K8.out
  go_wp2_with fail
  refine KSM.out.mono ?_
  rintro e w9 ⟨rfl, g9⟩
  have G9 := Lib.hid (G8.out.trans g9)
  have HB9 := Lib.hid (HB8.out.grew g9)
  clear x0 x1 y0 y1 g9 KA K8 HB8
  by_cases hl0 : less < 0
  · have q0 : decide (less < 0) = true := by simpa using hl0
    clear hl0
    go_wp2
    go_ret
    exact ⟨rfl, G9.out⟩
  have q0 : decide (less < 0) = false := by simpa using hl0
  by_cases hl1 : (F.length : Int) ≤ less
  · have q1 : decide (less ≥ (F.length : Int)) = true := by simpa using hl1
    clear hl0 hl1
    go_wp2
    go_ret
    exact ⟨rfl, G9.out⟩
  have q1 : decide (less ≥ (F.length : Int)) = false := by simp; omega
  obtain ⟨k, rfl⟩ := Int.eq_ofNat_of_zero_le (show 0 ≤ less by omega)
  have hk : k < F.length := by omega
  have q2 : decide (F.length ≤ k) = false := decide_eq_false (by omega)
  have HB10 := Lib.hid (bs_take HB9.out k (by omega))
  have hrl := HRL.out k hk
  have hcap : F.length ≤ c2 := by obtain ⟨-, _, _, e, q, -⟩ := HB9.out; cases e; exact q
  have z1 : (0 : Int) ≤ (k : Int) := by omega
  have z2 : (k : Int) ≤ (c2 : Int) := by omega
  have kr2 := fread_any _ _ w9 HB10.out (by rw [List.length_take]; have := HP9.out; omega)
  rw [hrl] at kr2
  have KR2 := Lib.hid kr2
  clear hl0 hl1 hrl kr2 hk hcap
  go_wp2_with fail
  refine KR2.out.mono ?_
  rintro e w10 ⟨v10, rfl, hp10, g10⟩
  obtain ⟨a10, n10, c10, rfl, hn10⟩ := bs_shape hp10.1
  have G10 := Lib.hid ((G9.out.trans g10).trans (grew_alloc w10 (.cells #[.int .u8 0, .slice a10 n10 c10] 24)))
  clear hp10 g10
  go_wp2
  go_ret
  exact ⟨rfl, G10.out⟩
end Go.Proofs.Ytcibhkiddeggmaa
