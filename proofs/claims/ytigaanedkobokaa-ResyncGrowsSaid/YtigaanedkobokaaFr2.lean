/- The law ResyncGrows returns true: its walk. -/
import Derived.Test.YtigaanedkobokaaFrV
namespace Go.Proofs.Ytigaanedkobokaa
open Go Go.RowKit Go.Shelf

set_option maxRecDepth 100000 in
set_option maxHeartbeats 4000000 in
theorem grows_walk (l m : List UInt8) (v u : Value) (w : World) (hb : Bs w v l) (hc : Bs w u m) :
    Calls Try.prog 4 #[v, u] w fun e w' => e = .returned (.bool true) ∧ Grew w w' := by
  obtain ⟨a, c, rfl, h1, h2, -, -⟩ := hb.open
  obtain ⟨a', c', rfl, h1', h2', -, -⟩ := hc.open
  unfold maxLen at h2 h2'
  by_cases hl : 3000 < l.length
  · clear hb hc
    go_enter Try.func4, Try.ntmps4
    go_wp2_with fail
    refine (live14_any _).mono ?_
    rintro e w1 ⟨rfl, g1⟩
    go_wp2
    go_ret
    exact ⟨rfl, g1⟩
  have hl' : l.length ≤ 3000 := by omega
  by_cases hm : 3000 < m.length
  · clear hb hc hl
    go_enter Try.func4, Try.ntmps4
    go_wp2_with fail
    refine (live14_any _).mono ?_
    rintro e w1 ⟨rfl, g1⟩
    go_wp2
    go_ret
    exact ⟨rfl, g1⟩
  have hm' : m.length ≤ 3000 := by omega
  have HB := Lib.hid hb
  have HC := Lib.hid hc
  clear hl hm hb hc
  go_enter Try.func4, Try.ntmps4
  go_wp2_with fail
  refine (live14_any _).mono ?_
  rintro e w1 ⟨rfl, g1⟩
  have B1 := Lib.hid (HB.out.grew g1)
  have C1 := Lib.hid (HC.out.grew g1)
  have hwa := walk_append m l 0
  rw [Nat.sub_zero] at hwa
  have hf1 := (walk_from false ((l ++ m).drop (walkL false l 0).2.2) (walkL false l 0).2.2).1
  have hat := fun x hx => ((walk_at false ((l ++ m).drop (walkL false l 0).2.2) (walkL false l 0).2.2).1 x hx).1
  generalize walkL false ((l ++ m).drop (walkL false l 0).2.2) (walkL false l 0).2.2 = R at hwa hf1 hat
  have k2 := all_any l _ _ B1.out (by omega)
  obtain ⟨fs, hfs⟩ : ∃ fs, fs = (walkL false l 0).1 := ⟨_, rfl⟩
  obtain ⟨F, hF⟩ : ∃ F, F = (walkL false l 0).2.2 := ⟨_, rfl⟩
  rw [← hfs, ← hF] at k2
  rw [← hfs] at hwa
  rw [← hF] at hf1 hat
  have hA1 : (walkL false (l ++ m) 0).1 = fs ++ R.1 := by rw [hwa]
  have hA2 : (walkL false (l ++ m) 0).2.2 = R.2.2 := by rw [hwa]
  have HA1 := Lib.hid hA1
  have HA2 := Lib.hid hA2
  have HAT := Lib.hid hat
  have K2 := Lib.hid k2
  clear hwa hA1 hA2 hat k2 hfs hF
  go_wp2_with fail
  refine K2.out.mono ?_
  rintro e w2 ⟨v2, rfl, r2, g2⟩
  obtain ⟨a2, n2, c2, rfl, en2, t2, s2⟩ := r2.shape
  have R2 := Lib.hid r2.frs
  have G2 := g1.trans g2
  have B2 := Lib.hid (B1.out.grew g2)
  have C2 := Lib.hid (C1.out.grew g2)
  clear r2
  subst en2
  go_wp2_with fail
  refine (join_any l m _ _ _ B2.out C2.out (by omega)).mono ?_
  rintro e w3 ⟨v3, rfl, o3, g3⟩
  have b3 := Sl.of_own o3
  obtain ⟨a3, n3, c3, rfl, hn3⟩ := bs_shape b3
  have B3 := Lib.hid b3
  have G3 := G2.trans g3
  clear o3 b3
  go_wp2_with fail
  have k4 := all_any (l ++ m) _ _ B3.out (by rw [List.length_append]; omega)
  rw [HA1.out, HA2.out] at k4
  refine k4.mono ?_
  clear k4
  rintro e w4 ⟨v4, rfl, r4, g4⟩
  obtain ⟨a4, n4, c4, rfl, en4, t4, s4⟩ := r4.shape
  have hn4 : n4 = fs.length + R.1.length := by rw [en4, List.length_append]
  have G4 := G3.trans g4
  have R2b := Lib.hid ((R2.out.grew g3).grew g4)
  have R4 := Lib.hid r4.frs
  have hne : ¬ ((n4 : Int) < (fs.length : Int)) := by omega
  have hne2 : decide ((n4 : Int) < (fs.length : Int)) = false := by simp; omega
  have hne3 : decide ((R.2.2 : Int) < (F : Int)) = false := by simp; omega
  have hle4 : fs.length ≤ n4 := by omega
  have HN4 := Lib.hid hn4
  clear r4 en4 hn4
  go_wp2_with fail
  have rt := R4.out.take fs.length (by omega)
  rw [List.take_left] at rt
  refine (r14same_any _ _ _ _ _ rt R2b.out).mono ?_
  rintro e w5 ⟨rfl, g5⟩
  have G5 := G4.trans g5
  rw [show (fs == fs) = true by simp]
  clear rt
  go_wp2
  go_loopw [9] (fun i wr => (∃ k : Nat, fs.length ≤ k ∧ k ≤ n4 ∧ i = .int .i64 k) ∧ Grew w5 wr) (fun i _ => n4 - (intOf i).toNat)
  case atStart => exact ⟨⟨fs.length, Nat.le_refl _, by omega, rfl⟩, Below.refl _ _⟩
  case round =>
    obtain ⟨⟨k, hk0, hk, rfl⟩, gr⟩ := hrel
    by_cases hlt : k < n4
    · have hln : k < (fs ++ R.1).length := by rw [List.length_append, ← HN4.out]; exact hlt
      obtain ⟨b, o, rfl, hcl⟩ := R4.out.cells (by omega)
      have x := (below_ext gr) _ _ ((below_ext g5) _ _ (hcl k hln).1)
      have hge : F ≤ (fs ++ R.1)[k].1 := by
        rw [List.getElem_append_right hk0]
        exact HAT.out _ (List.getElem_mem _)
      generalize (fs ++ R.1)[k].1 = p at x hge
      have hd : decide ((p : Int) < (F : Int)) = false := by simp; omega
      clear hcl hln
      go_wp2
      go_roundw
      case rel => exact ⟨⟨k + 1, by omega, by omega, by go_num⟩, gr⟩
      case measure => simp [intOf]; omega
    · obtain rfl : k = n4 := by omega
      go_wp2
      go_ret
      exact ⟨rfl, G5.trans gr⟩
end Go.Proofs.Ytigaanedkobokaa
