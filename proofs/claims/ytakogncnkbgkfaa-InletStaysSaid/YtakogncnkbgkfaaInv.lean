/- rescriptlaw04: live and one: contracts. -/
import Derived.Test.YtakogncnkbgkfaaInw
namespace Go.Proofs.Ytakogncnkbgkfaa
open Go Go.RowKit Go.Shelf
attribute [local go_sem] Oper.semAt_some

theorem one_any (l : List UInt8) (p q at_ kind : Nat) (n : Int) (hn0 : -9223372036854775808 ≤ n) (hn : n ≤ 9223372036854775807) (hl : l.length ≤ 1000) (hpq : p ≠ q) (w : World) (hi : InI w p l at_) (hr : InR w q l at_) :
    Calls Try.prog 22 #[.pointer (some ⟨p, 0, none⟩), .pointer (some ⟨q, 0, none⟩), .agg #[.int .u8 kind, .int .i64 n]] w fun e w' => e = .returned (.bool true) ∧ InI w' p l (askR l at_ kind n) ∧ InR w' q l (askR l at_ kind n) ∧ Fr (Two p q) w w' := by
  unfold askR
  by_cases h0 : kind = 0
  · subst h0; exact one_0 l p q at_ n hn0 hn hl hpq w hi hr
  rw [if_neg h0]
  by_cases h1 : kind = 1
  · subst h1; exact one_1 l p q at_ n hn0 hn hl hpq w hi hr
  rw [if_neg h1]
  by_cases h2 : kind = 2
  · subst h2; exact one_2 l p q at_ n hn0 hn hl hpq w hi hr
  rw [if_neg h2]
  by_cases h3 : kind = 3
  · subst h3; exact one_3 l p q at_ n hn0 hn hl hpq w hi hr
  rw [if_neg h3]
  by_cases h4 : kind = 4
  · subst h4; exact one_4 l p q at_ n hn0 hn hl hpq w hi hr
  rw [if_neg h4]
  exact one_5 l p q at_ kind (by omega) n hn0 hn hl hpq w hi hr

/-! ## no reader -/
set_option maxRecDepth 10000 in
theorem ivarint_nil (w : World) : Calls Try.prog 25 #[.pointer none] w fun e w' => e = .returned (.tuple #[.int .u64 0, faultV 4 0]) ∧ Grew w w' := by
  have K := fun (w : World) => get_any [] (.slice none 0 0) w (Sl.nil w 1)
  rw [show vget [] = (0, 0, 4) from rfl] at K
  have KG := Lib.hid K
  have hb0 := Blk.new w 59 #[.int .i64 0, .int .i64 0]
  clear K
  go_enter Try.func25, Try.ntmps25
  go_wp2_with fail
  refine (rest_nil _).mono ?_
  rintro e1 w1 ⟨rfl, rfl⟩
  go_wp2_with fail
  refine (KG.out _).mono ?_
  rintro e2 w2 ⟨rfl, rfl⟩
  go_wp2_with fail
  refine (end_nil 0 4 _).mono ?_
  rintro e3 w3 ⟨rfl, g3⟩
  rw [show faultV (if 4 = 0 then 4 else 4) 0 = faultV 4 0 from rfl]
  have hb3 := hb0.grew g3
  obtain ⟨c0, c1, f0, f1⟩ := cells_of hb3
  clear hb0
  go_wp2
  exact bodyPost_ret (results_tc rfl _ _ ⟨w.heap.size, 0, none⟩ _ _ rfl rfl (loadVar_fault _ _ _ rfl ((hb3.set 0 _).set 1 _))) rfl ⟨rfl, grew_set (grew_set (Grew.trans (grew_alloc _ _) g3) (Nat.le_refl _) _) (Nat.le_refl _) _⟩
set_option maxRecDepth 10000 in
theorem icut_nil (w : World) : Calls Try.prog 58 #[.pointer none, .int .i64 0, .int .i64 0] w fun e w' => e = .returned (.tuple #[.slice none 0 0, faultV 4 0]) ∧ Grew w w' := by
  have hb0 := Blk.new w 59 #[.int .i64 0, .int .i64 0]
  go_enter Try.func58, Try.ntmps58
  go_wp2_with fail
  refine (rest_nil _).mono ?_
  rintro e1 w1 ⟨rfl, rfl⟩
  go_wp2_with fail
  refine (end_nil 0 0 _).mono ?_
  rintro e3 w3 ⟨rfl, g3⟩
  rw [show faultV (if 0 = 0 then 4 else 0) 0 = faultV 4 0 from rfl]
  have hb3 := hb0.grew g3
  obtain ⟨c0, c1, f0, f1⟩ := cells_of hb3
  have g4 := grew_alloc w3 (.cells #[.int .i64 4, .int .i64 0] 59)
  have hb4 := hb3.grew g4
  have n4 := hb3.lt
  obtain ⟨y0, y1, -, -⟩ := cells_of (Blk.new w3 59 #[.int .i64 4, .int .i64 0])
  clear hb0
  go_wp2
  go_region
  go_wp2
  exact bodyPost_ret (results_tc rfl _ _ ⟨w.heap.size, 0, none⟩ _ _ rfl rfl (loadVar_fault _ _ _ rfl ((((hb3.set 0 _).set 1 _).alloc _).drew))) rfl ⟨rfl, (((grew_set (grew_set (Grew.trans (grew_alloc _ _) g3) (Nat.le_refl _) _) (Nat.le_refl _) _).alloc (by simp; omega) _).drew)⟩
set_option maxRecDepth 10000 in
theorem itake_nil (w : World) : Calls Try.prog 30 #[.pointer none, .int .i64 0] w fun e w' => e = .returned (.tuple #[.slice none 0 0, faultV 4 0]) ∧ Grew w w' := by
  have hb0 := Blk.new w 59 #[.int .i64 0, .int .i64 0]
  go_enter Try.func30, Try.ntmps30
  go_wp2_with fail
  refine (icut_nil _).mono ?_
  rintro e3 w3 ⟨rfl, g3⟩
  have hb3 := hb0.grew g3
  obtain ⟨c0, c1, f0, f1⟩ := cells_of hb3
  clear hb0
  go_wp2
  exact bodyPost_ret (results_tc rfl _ _ ⟨w.heap.size, 0, none⟩ _ _ rfl rfl (loadVar_fault _ _ _ rfl ((hb3.set 0 _).set 1 _))) rfl ⟨rfl, grew_set (grew_set (Grew.trans (grew_alloc _ _) g3) (Nat.le_refl _) _) (Nat.le_refl _) _⟩

def liveB : List UInt8 := [3, 97, 98, 99, 10, 5]
set_option maxRecDepth 100000 in
set_option maxHeartbeats 4000000 in
theorem live4_any (w : World) : Calls Try.prog 20 #[] w fun e w' => e = .returned (.bool true) ∧ Grew w w' := by
  have r1 : bytesR liveB 0 2 = ([], 2, 0) := by decide
  have r2 : bytesR liveB 0 9 = ([97, 98, 99], 0, 4) := by decide
  have r3 : tagR liveB 4 = (1, 2, 0, 5) := by decide
  have r4 : vget (liveB.drop 5) = (5, 1, 0) := by decide
  have r5 : fixR liveB 6 4 = (0, 4, 6) := by decide
  have k1 := fun p w h => ibytes_any liveB p 0 2 (by omega) (by omega) (by decide) w h
  have k2 := fun p w h => ibytes_any liveB p 0 9 (by omega) (by omega) (by decide) w h
  have k3 := fun p w h => itag_any liveB p 4 w h
  have k4 := fun p w h => ivarint_any liveB p 5 w h
  have k5 := fun p w h => ifour_any liveB p 6 w h
  simp only [r1, r2, r3, r4, r5] at k1 k2 k3 k4 k5
  have K1 := Lib.hid k1
  have K2 := Lib.hid k2
  have K3 := Lib.hid k3
  have K4 := Lib.hid k4
  have K5 := Lib.hid k5
  clear k1 k2 k3 k4 k5 r1 r2 r3 r4 r5
  have hb := bs_lit w liveB #[.int .u8 3, .int .u8 97, .int .u8 98, .int .u8 99, .int .u8 10, .int .u8 5] 6 rfl rfl (by omega)
  go_enter Try.func20, Try.ntmps20
  go_wp2_with fail
  refine (inew_any liveB _ _ hb (by decide)).mono ?_
  rintro e1 w1 ⟨p, rfl, hp, hi, g1⟩
  replace g1 := Grew.trans (grew_alloc _ _) g1
  clear hb
  go_wp2_with fail
  refine (K1.out p _ hi).mono ?_
  rintro e1 w2 ⟨v1, rfl, -, hi2, f2⟩
  rw [show outF 2 0 = faultV 2 0 from rfl]
  have b1 := Blk.new w2 59 #[.int .i64 2, .int .i64 0]
  have n2 := hi2.lt
  have hi2' := hi2.grew (grew_alloc w2 (.cells #[.int .i64 2, .int .i64 0] 59))
  go_wp2_with fail
  refine (K2.out p _ hi2').mono ?_
  rintro e1 w3 ⟨v2, rfl, o2, hi3, f3⟩
  rw [show outF 0 0 = faultV 0 0 from rfl]
  have s2 : Bs w3 v2 [97, 98, 99] := Sl.of_own o2
  obtain ⟨a2, c2, rfl⟩ := bs_len s2
  replace b1 := b1.fr f3 (by omega)
  have b2 := Blk.new w3 59 #[.int .i64 0, .int .i64 0]
  have n3 := hi3.lt
  have g3 := grew_alloc w3 (.cells #[.int .i64 0, .int .i64 0] 59)
  have hi3' := hi3.grew g3
  replace b1 := b1.grew g3
  replace s2 := s2.grew g3
  go_wp2_with fail
  refine (K3.out p _ hi3').mono ?_
  rintro e1 w4 ⟨rfl, hi4, f4⟩
  rw [show outF 0 4 = faultV 0 0 from rfl]
  have q1 := f3.size
  have q2 := f4.size
  simp at q1 q2
  replace s2 := hi3'.bs f4 s2
  replace b1 := b1.fr f4 (by omega)
  replace b2 := b2.fr f4 (by omega)
  have b3 := Blk.new w4 59 #[.int .i64 0, .int .i64 0]
  have g4 := grew_alloc w4 (.cells #[.int .i64 0, .int .i64 0] 59)
  have hi4' := hi4.grew g4
  replace b1 := b1.grew g4
  replace b2 := b2.grew g4
  replace s2 := s2.grew g4
  go_wp2_with fail
  refine (K4.out p _ hi4').mono ?_
  rintro e1 w5 ⟨rfl, hi5, f5⟩
  rw [show outF 0 5 = faultV 0 0 from rfl]
  have q3 := f5.size
  simp at q3
  replace s2 := hi4'.bs f5 s2
  replace b1 := b1.fr f5 (by omega)
  replace b2 := b2.fr f5 (by omega)
  replace b3 := b3.fr f5 (by omega)
  have b4 := Blk.new w5 59 #[.int .i64 0, .int .i64 0]
  have g5 := grew_alloc w5 (.cells #[.int .i64 0, .int .i64 0] 59)
  have hi5' := hi5.grew g5
  replace b1 := b1.grew g5
  replace b2 := b2.grew g5
  replace b3 := b3.grew g5
  replace s2 := s2.grew g5
  go_wp2_with fail
  refine (K5.out p _ hi5').mono ?_
  rintro e1 w6 ⟨rfl, hi6, f6⟩
  rw [show outF 4 6 = faultV 4 6 from rfl]
  have q4 := f6.size
  simp at q4
  replace s2 := hi5'.bs f6 s2
  replace b1 := b1.fr f6 (by omega)
  replace b2 := b2.fr f6 (by omega)
  replace b3 := b3.fr f6 (by omega)
  replace b4 := b4.fr f6 (by omega)
  have b5 := Blk.new w6 59 #[.int .i64 4, .int .i64 6]
  have g6 := grew_alloc w6 (.cells #[.int .i64 4, .int .i64 6] 59)
  replace hi6 := hi6.grew g6
  replace b1 := b1.grew g6
  replace b2 := b2.grew g6
  replace b3 := b3.grew g6
  replace b4 := b4.grew g6
  replace s2 := s2.grew g6
  have gE : Grew w (w6.alloc (.cells #[.int .i64 4, .int .i64 6] 59)) := by
    have F12 := f2.alloc (.cells #[.int .i64 2, .int .i64 0] 59)
    have F3 := (F12.trans f3).trans (Fr.of_grew g3)
    have F4 := (F3.trans f4).trans (Fr.of_grew g4)
    have F5 := (F4.trans f5).trans (Fr.of_grew g5)
    have F6 := (F5.trans f6).trans (Fr.of_grew g6)
    exact F6.grew g1 (fun i e => by simp at hp; omega)
  clear hi hi2 hi2' hi3 hi3' hi4 hi4' hi5 hi5' f2 f3 f4 f5 f6 g1 g3 g4 g5 g6 o2 K1 K2 K3 K4 K5
  go_wp2_with fail
  refine (ivarint_nil _).mono ?_
  rintro e1 w7 ⟨rfl, g7⟩
  have b6 := Blk.new w7 59 #[.int .i64 4, .int .i64 0]
  have g8 := Grew.trans g7 (grew_alloc w7 (.cells #[.int .i64 4, .int .i64 0] 59))
  replace hi6 := hi6.grew g8
  replace b1 := b1.grew g8
  replace b2 := b2.grew g8
  replace b3 := b3.grew g8
  replace b4 := b4.grew g8
  replace b5 := b5.grew g8
  replace s2 := s2.grew g8
  replace gE := Grew.trans gE g8
  clear g7 g8
  go_wp2_with fail
  refine (itake_nil _).mono ?_
  rintro e1 w8 ⟨rfl, g7⟩
  have b7 := Blk.new w8 59 #[.int .i64 4, .int .i64 0]
  have g8 := Grew.trans g7 (grew_alloc w8 (.cells #[.int .i64 4, .int .i64 0] 59))
  replace hi6 := hi6.grew g8
  replace b1 := b1.grew g8
  replace b2 := b2.grew g8
  replace b3 := b3.grew g8
  replace b4 := b4.grew g8
  replace b5 := b5.grew g8
  replace b6 := b6.grew g8
  replace s2 := s2.grew g8
  replace gE := Grew.trans gE g8
  clear g7 g8
  obtain ⟨b10, b11, -, -⟩ := cells_of b1
  obtain ⟨b20, b21, -, -⟩ := cells_of b2
  obtain ⟨b30, b31, -, -⟩ := cells_of b3
  obtain ⟨b40, b41, -, -⟩ := cells_of b4
  obtain ⟨b50, b51, -, -⟩ := cells_of b5
  obtain ⟨b60, b61, -, -⟩ := cells_of b6
  obtain ⟨b70, b71, -, -⟩ := cells_of b7
  have hcv := conv_bs [97, 98, 99] _ _ s2
  have hs3 : (str [97, 98, 99] : Value) = .string ⟨#[97, 98, 99]⟩ := rfl
  rw [hs3] at hcv
  simp only [List.length_cons, List.length_nil, Nat.zero_add, Nat.reduceAdd] at hcv
  have HI := Lib.hid hi6
  clear b1 b2 b3 b4 b5 b6 b7 s2 hs3 hi6
  go_wp2_with fail
  refine (at_any liveB p 6 _ HI.out).mono ?_
  rintro e1 w9 ⟨rfl, rfl⟩
  go_wp2_with fail
  refine (left_any liveB p 6 _ HI.out).mono ?_
  rintro e1 w9 ⟨rfl, nd, rfl⟩
  rw [show liveB.length - 6 = 0 from rfl]
  go_wp2_with fail
  refine (at_nil _).mono ?_
  rintro e1 w9 ⟨rfl, rfl⟩
  go_wp2_with fail
  refine (left_nil _).mono ?_
  rintro e1 w9 ⟨rfl, rfl⟩
  go_wp2
  go_ret
  exact ⟨rfl, Grew.trans gE (Drew.grew ⟨_, rfl⟩)⟩
end Go.Proofs.Ytakogncnkbgkfaa
