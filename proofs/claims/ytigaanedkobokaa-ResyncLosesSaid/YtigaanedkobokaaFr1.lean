/- The law ResyncFinds returns true: its walk. -/
import Derived.Test.YtigaanedkobokaaFrV
namespace Go.Proofs.Ytigaanedkobokaa
open Go Go.RowKit Go.Shelf

theorem OwnI.open {w : World} {base : Nat} {v : Value} {l : List Nat} (h : OwnI w base v l) : ∃ a n c, v = .slice a n c ∧ n = l.length ∧ n ≤ c ∧ c ≤ 9223372036854775807 ∧ (0 < n → ∃ b off, a = some ⟨b, off, none⟩ ∧ ∀ j (hj : j < l.length), w.cell? ⟨b, off + j, none⟩ = some (.int .i64 (l[j] : Nat))) := by
  obtain ⟨a, c, e, h1, h2, _, h4⟩ := (Sl.of_own h).open
  unfold maxLen at h2
  refine ⟨a, _, c, e, rfl, h1, by omega, fun hn => ?_⟩
  obtain ⟨b, o, ea, hc⟩ := h4 (by omega)
  exact ⟨b, o, ea, fun j hj => hc j _ (iv_get l j hj)⟩

set_option maxRecDepth 100000 in
set_option maxHeartbeats 4000000 in
theorem finds_walk (l : List UInt8) (v : Value) (w : World) (hb : Bs w v l) :
    Calls Try.prog 3 #[v] w fun e w' => e = .returned (.bool true) ∧ Grew w w' := by
  obtain ⟨a, c, rfl, h1, h2, -, -⟩ := hb.open
  unfold maxLen at h2
  by_cases hl : 3000 < l.length
  · clear hb
    go_enter Try.func3, Try.ntmps3
    go_wp2_with fail
    refine (live14_any _).mono ?_
    rintro e w1 ⟨rfl, g1⟩
    go_wp2
    go_ret
    exact ⟨rfl, g1⟩
  have hl' : l.length ≤ 3000 := by omega
  have HB := Lib.hid hb
  clear hl hb
  go_enter Try.func3, Try.ntmps3
  go_wp2_with fail
  refine (live14_any _).mono ?_
  rintro e w1 ⟨rfl, g1⟩
  have B1 := Lib.hid (HB.out.grew g1)
  go_wp2_with fail
  refine (all_any l _ _ B1.out (by omega)).mono ?_
  rintro e w2 ⟨v2, rfl, r2, g2⟩
  obtain ⟨a2, n2, c2, rfl, en2, -, -⟩ := r2.shape
  have R2 := Lib.hid r2.frs
  have G2 := g1.trans g2
  have B2 := Lib.hid (B1.out.grew g2)
  obtain ⟨F, hF⟩ : ∃ F, F = (walkL false l 0).2.2 := ⟨_, rfl⟩
  obtain ⟨P, hP⟩ : ∃ P, P = (walkL false l 0).2.1 := ⟨_, rfl⟩
  rw [← hF]
  have HF := Lib.hid hF
  have HP := Lib.hid hP
  clear r2 en2 hF hP
  go_wp2_with fail
  refine (r14walk_any l false _ _ B2.out (by omega)).mono ?_
  rintro e w3 ⟨v3, rfl, r3, g3⟩
  rw [← HF.out, ← HP.out]
  obtain ⟨a3, n3, c3, rfl, en3, -, -⟩ := r3.shape
  have R3 := Lib.hid r3.frs
  have G3 := G2.trans g3
  have B3 := Lib.hid (B2.out.grew g3)
  have R2' := Lib.hid (R2.out.grew g3)
  clear r3 en3
  go_wp2_with fail
  refine (r14walk_any l true _ _ B3.out (by omega)).mono ?_
  generalize (walkL true l 0).2.1 = P4
  generalize (walkL true l 0).2.2 = F4
  rintro e w4 ⟨v4, rfl, r4, g4⟩
  obtain ⟨a4, n4, c4, rfl, en4, -, -⟩ := r4.shape
  have R4 := Lib.hid r4.frs
  have G4 := G3.trans g4
  have B4 := Lib.hid (B3.out.grew g4)
  have R2b := Lib.hid (R2'.out.grew g4)
  have R3b := Lib.hid (R3.out.grew g4)
  clear r4 en4
  go_wp2_with fail
  refine (r13read_any l _ _ B4.out (by omega)).mono ?_
  rw [fread_err]
  generalize (fread l).1.1 = T5
  generalize (fread l).2.1 = N5
  obtain ⟨E, hE⟩ : ∃ E, E = ferr l := ⟨_, rfl⟩
  rw [← hE]
  have HE := Lib.hid hE
  clear hE
  rintro e w5 ⟨v5, rfl, p5, g5⟩
  obtain ⟨a5, n5, c5, rfl, -⟩ := p5.shape
  have g5' := g5.trans (grew_alloc w5 (.cells #[.int .u8 (T5.toNat : Int), .slice a5 n5 c5] 30))
  have G5 := G4.trans g5'
  have B5 := Lib.hid (B4.out.grew g5')
  have R2c := Lib.hid (R2b.out.grew g5')
  have R3c := Lib.hid (R3b.out.grew g5')
  have R4c := Lib.hid (R4.out.grew g5')
  clear p5
  go_wp2_with fail
  obtain ⟨M, hM⟩ : ∃ M, M = wholeN l l.length := ⟨_, rfl⟩
  have k6 := whole_any l _ _ B5.out (by omega)
  rw [← hM] at k6
  have HM := Lib.hid hM
  clear hM
  refine k6.mono ?_
  clear k6
  rintro e w6 ⟨v6, rfl, r6, g6⟩
  have G6 := G5.trans g6
  have B6 := Lib.hid (B5.out.grew g6)
  have R2d := Lib.hid (R2c.out.grew g6)
  have R3d := Lib.hid (R3c.out.grew g6)
  have R4d := Lib.hid (R4c.out.grew g6)
  obtain ⟨a6, n6, c6, rfl, en6, s6, t6, cell6⟩ := r6.open
  have C6 := Lib.hid cell6
  clear r6 cell6
  subst en6
  go_wp2_with fail
  have k7 := r14whole_any l _ _ B6.out (by omega)
  rw [← HM.out] at k7
  refine k7.mono ?_
  clear k7
  rintro e w7 ⟨v7, rfl, r7, g7⟩
  have G7 := G6.trans g7
  have B7 := Lib.hid (B6.out.grew g7)
  have R2e := Lib.hid (R2d.out.grew g7)
  have R3e := Lib.hid (R3d.out.grew g7)
  have R4e := Lib.hid (R4d.out.grew g7)
  obtain ⟨a7, n7, c7, rfl, en7, s7, t7, cell7⟩ := r7.open
  have C7 := Lib.hid cell7
  clear r7 cell7
  subst en7
  go_wp2
  go_loopw [16] (fun i wr => (∃ k : Nat, k ≤ M.length ∧ i = .int .i64 k) ∧ Grew w7 wr) (fun i _ => M.length - (intOf i).toNat)
  case atStart => exact ⟨⟨0, Nat.zero_le _, rfl⟩, Below.refl _ _⟩
  case round =>
    obtain ⟨⟨k, hk, rfl⟩, gr⟩ := hrel
    by_cases hlt : k < M.length
    · obtain ⟨b, o, rfl, hc⟩ := C6.out (by omega)
      obtain ⟨b', o', rfl, hc'⟩ := C7.out (by omega)
      have x6 := (below_ext gr) _ _ ((below_ext g7) _ _ (hc k hlt))
      have x7 := (below_ext gr) _ _ (hc' k hlt)
      have z1 : (k : Int) < (M.length : Int) := by omega
      generalize M[k] = m at x6 x7
      have hmm : ((m : Int) != (m : Int)) = false := by simp
      clear hc hc'
      go_wp2
      go_quiet (fail)
      go_wp2
      go_roundw
      case rel => exact ⟨⟨k + 1, by omega, by go_num⟩, gr.trans (Drew.grew ⟨_, rfl⟩)⟩
      case measure => simp [intOf]; omega
    · obtain rfl : k = M.length := by omega
      go_wp2_with fail
      refine (r14same_any _ _ _ _ _ (R2e.out.grew gr) (R3e.out.grew gr)).mono ?_
      rintro e w8 ⟨rfl, g8⟩
      have gr8 := gr.trans g8
      rw [show ((walkL false l 0).1 == (walkL false l 0).1) = true by simp]
      have hff : ((F : Int) == (F : Int)) = true := by simp
      go_wp2_with fail
      refine (passed_any l _ _ (B7.out.grew gr8) (by omega)).mono ?_
      rw [← HP.out]
      rintro e w9 ⟨rfl, g9⟩
      have gr9 := gr8.trans g9
      have hpp : ((P : Int) == (P : Int)) = true := by simp
      go_wp2_with fail
      refine (ended_any l _ _ (B7.out.grew gr9) (by omega)).mono ?_
      rintro e w10 ⟨v10, rfl, r10, g10⟩
      obtain ⟨a10, n10, c10, rfl, -, -, -⟩ := r10.shape
      have R10 := Lib.hid r10.frs
      have gr10 := gr9.trans g10
      clear r10
      go_wp2_with fail
      refine (r14same_any _ _ _ _ _ R10.out (R4e.out.grew gr10)).mono ?_
      rintro e w11 ⟨rfl, g11⟩
      have gr11 := gr10.trans g11
      rw [show ((walkL true l 0).1 == (walkL true l 0).1) = true by simp]
      go_wp2_with fail
      refine (could_any l _ _ (B7.out.grew gr11) (by omega)).mono ?_
      rw [← HE.out]
      rintro e w12 ⟨rfl, g12⟩
      have gr12 := gr11.trans g12
      have q0 : ((E : Int) == 0) = (E == 0) := by rw [Bool.eq_iff_iff]; simp
      have q4 : ((E : Int) == 4) = (E == 4) := by rw [Bool.eq_iff_iff]; simp; omega
      cases e0 : (E == 0) with
      | true =>
        rw [e0] at q0
        go_wp2
        go_ret
        refine ⟨ret_bool ?_, G7.trans gr12⟩
        simp
      | false =>
        rw [e0] at q0
        go_wp2
        go_ret
        refine ⟨ret_bool ?_, G7.trans gr12⟩
        simp [e0]
end Go.Proofs.Ytigaanedkobokaa
