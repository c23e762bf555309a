/- The law StreamCuts returns true: its walk. -/
import Derived.Test.YtoinndlialimcaaSt1
namespace Go.Proofs.Ytoinndlialimcaa
open Go Go.RowKit Go.Shelf

/-- what the law asks of a piece: not empty, not longer than it must be, as long but for the last one -/
theorem cut_piece (s : List Int) (l : List UInt8) (j : Nat) (hj : j < (cutM s l).length) : 0 < ((cutM s l)[j]).length ∧ ((cutM s l)[j]).length ≤ cutSize s l.length j ∧ (j + 1 < (cutM s l).length → ((cutM s l)[j]).length = cutSize s l.length j) := by
  have := cutF_len s l.length l.length l 0 (Nat.le_refl _) (fun _ => ⟨rfl, rfl⟩) j hj
  rw [Nat.zero_add] at this
  exact this
theorem cut_join (s : List Int) (l : List UInt8) : (cutM s l).flatten = l := cutF_join s l.length l 0 (Nat.le_refl _)
theorem flat_le (L : List (List UInt8)) (k : Nat) : (L.take k).flatten.length ≤ L.flatten.length := by
  have : L.flatten = (L.take k).flatten ++ (L.drop k).flatten := by rw [← List.flatten_append, List.take_append_drop]
  rw [this, List.length_append]; omega
set_option maxRecDepth 100000 in
set_option maxHeartbeats 8000000 in
theorem scuts_walk (l : List UInt8) (s : List Int) (v u : Value) (w : World) (hb : Bs w v l) (hs : Sl w u s.length 1 (iiv s)) (hsb : ∀ z ∈ s, -9223372036854775808 ≤ z ∧ z ≤ 9223372036854775807) :
    Calls Try.prog 4 #[v, u] w fun e w' => e = .returned (.bool true) ∧ Grew w w' := by
  obtain ⟨a, c, rfl, q1, q2, -, -⟩ := hb.open
  obtain ⟨ua, uc, rfl, u1, u2, -, u4⟩ := hs.open
  unfold maxLen at q2 u2
  by_cases hl : 1000 < l.length
  · clear hb hs u4
    go_enter Try.func4, Try.ntmps4
    go_wp2_with fail
    refine (live16_any _).mono ?_
    rintro e w1 ⟨rfl, g1⟩
    go_wp2
    go_ret
    exact ⟨rfl, g1⟩
  have hl' : l.length ≤ 1000 := by omega
  by_cases hq : 20 < s.length
  · clear hb hs u4 hl
    go_enter Try.func4, Try.ntmps4
    go_wp2_with fail
    refine (live16_any _).mono ?_
    rintro e w1 ⟨rfl, g1⟩
    go_wp2
    go_ret
    exact ⟨rfl, g1⟩
  have hq' : s.length ≤ 20 := by omega
  have HB := Lib.hid hb
  have HS := Lib.hid hs
  have HSB := Lib.hid hsb
  clear hl hq hb hs hsb u4
  go_enter Try.func4, Try.ntmps4
  go_wp2_with fail
  refine (live16_any _).mono ?_
  rintro e w1 ⟨rfl, g1⟩
  go_wp2_with fail
  refine (scut_any l s _ _ _ (HB.out.grew g1) (HS.out.grew g1) HSB.out (by omega)).mono ?_
  rintro e w2 ⟨v2, rfl, ⟨ps, p1, p2, p3⟩, g2⟩
  have G2 := g1.trans g2
  have hpl : ps.length = (cutM s l).length := by rw [← p3, List.length_map]
  have hpn : ps.length ≤ 1000 := by rw [hpl]; exact Nat.le_trans (cutM_len s l) hl'
  obtain ⟨pa, pc, rfl, pc1, pc2, -, pcell⟩ := (Sl.of_own p1).open
  unfold maxLen at pc2
  have P2 := Lib.hid p2
  have P3 := Lib.hid p3
  have PC := Lib.hid pcell
  have P1 := Lib.hid p1
  have HPL := Lib.hid hpl
  clear p1 p2 p3 pcell hpl
  go_wp2_with fail
  go_loopw [6, 7] (fun vo i wr => ∃ k : Nat, k ≤ ps.length ∧ i = .int .i64 k ∧ OwnB wr w2.heap.size vo ((ps.take k).flatMap (·.2)) ∧ Grew w2 wr) (fun _ i _ => ps.length - (intOf i).toNat)
  case atStart => exact ⟨0, Nat.zero_le _, rfl, ownB_nil _ _, Below.refl _ _⟩
  case round =>
    obtain ⟨k, hk, rfl, hown, hG⟩ := hrel
    by_cases hlt : k < ps.length
    · obtain ⟨g, cur, rfl, hgk⟩ : ∃ g cur, pa = some ⟨g, 0, none⟩ ∧ Blk w2 g 22 cur := by
        rcases P1.out.2 with ⟨e, e2⟩ | ⟨g, cap, cur, e, -, hg, -⟩
        · omega
        · simp only [Value.slice.injEq] at e
          exact ⟨g, cur, e.1, hg⟩
      have x0 : wr.cell? ⟨g, k, none⟩ = some ps[k].1 := by
        obtain ⟨b, o, e, hc⟩ := PC.out (by omega)
        cases e
        have := (below_ext hG) _ _ (hc k ps[k].1 (by simp [hlt]))
        rwa [Nat.zero_add] at this
      have hgw := hgk.grew hG
      have hne := blk_ne_row hgw hown (by decide)
      have hbp := (P2.out ps[k] (List.getElem_mem hlt)).grew hG
      have hkc : k < (cutM s l).length := by rw [← HPL.out]; exact hlt
      have hpk : ps[k].2 = (cutM s l)[k] := by simp only [← P3.out, List.getElem_map]
      obtain ⟨c1, c2, c3⟩ := cut_piece s l k hkc
      rw [← hpk] at c1 c2 c3
      rw [← HPL.out] at c3
      have hts : (ps.take (k + 1)).flatMap (·.2) = (ps.take k).flatMap (·.2) ++ ps[k].2 := by rw [List.take_succ_eq_append_getElem hlt, List.flatMap_append]; simp
      have hfl : ((ps.take k).flatMap (·.2)).length ≤ 1000 := by
        have h1 : (ps.take k).flatMap (·.2) = ((cutM s l).take k).flatten := by rw [← P3.out, ← List.map_take, List.flatMap_def]
        have h2 := flat_le (cutM s l) k
        rw [cut_join] at h2
        rw [h1]; omega
      have hpl2 : ps[k].2.length ≤ 1000 := by
        have h2 := flat_le (cutM s l) (k + 1)
        rw [cut_join, List.take_succ_eq_append_getElem hkc, List.flatten_append, List.length_append, ← hpk] at h2
        simp at h2; omega
      generalize ps[k].1 = pv at x0 hbp
      generalize ps[k].2 = pb at hbp c1 c2 c3 hts hfl hpl2 hpk
      obtain ⟨pva, pvc, rfl⟩ := bs_len hbp
      have HTS := Lib.hid hts
      have HBP := Lib.hid hbp
      have z0 : (0 : Int) ≤ (k : Int) := by omega
      have z1 : (k : Int) < (ps.length : Int) := by omega
      have hp0 : ((pb.length : Int) == 0) = false := by rw [beq_eq_false_iff_ne]; omega
      obtain ⟨F, hF⟩ : ∃ F, F = (ps.take k).flatMap (·.2) := ⟨_, rfl⟩
      rw [← hF] at hown hfl HTS
      have HO := Lib.hid hown
      have HNE := Lib.hid hne
      have HGW := Lib.hid hgw
      obtain ⟨oa, oc, rfl⟩ := bs_len (Sl.of_own hown)
      clear hpk hown hne hgw hgk hF hkc
      obtain ⟨n, hn⟩ : ∃ n, n = cutSize s l.length k := ⟨_, rfl⟩
      rw [← hn] at c2 c3
      have z2 : ((pb.length : Int) > (n : Int)) = False := by simp; omega
      have hlast : (((k : Int) + 1 < (ps.length : Int)) ∧ pb.length = n) ∨ (ps.length : Int) ≤ (k : Int) + 1 := by
        by_cases h : k + 1 < ps.length
        · exact .inl ⟨by omega, c3 h⟩
        · exact .inr (by omega)
      have hw1 : IntKind.i64.wrap ((k : Int) + 1) = (k : Int) + 1 := by rw [IntKind.wrap_i64]; omega
      clear c3
      by_cases hs0 : s = []
      · have hsl : ¬ 0 < s.length := by rw [hs0]; simp
        have hn2 : n = l.length := by rw [hn]; unfold cutSize; rw [if_pos hs0]
        subst hn2
        clear hn hs0
        rcases hlast with ⟨h1, h2⟩ | h1
        · have z4 : ((pb.length : Int) != (l.length : Int)) = false := by rw [h2]; simp
          clear h2
          go_wp2_with (at_builtin; refine wpList_push rfl _ _ rfl w2.heap.size _ _ rfl HO.out _ rfl pb HBP.out (by omega) hG.size ?_; intro v' w3 hown3 hB3 hgb; have x3 : w3.cell? ⟨g, k, none⟩ = some (.slice pva pb.length pvc) := ((HGW.out.kept hgb HNE.out).cell k).trans ((HGW.out.cell k).symm.trans x0))
          go_roundw
          case rel => exact ⟨k + 1, by omega, by go_num, by rw [HTS.out]; exact hown3, Below.trans hG hB3⟩
          case measure => simp [intOf]; omega
        · go_wp2_with (at_builtin; refine wpList_push rfl _ _ rfl w2.heap.size _ _ rfl HO.out _ rfl pb HBP.out (by omega) hG.size ?_; intro v' w3 hown3 hB3 hgb; have x3 : w3.cell? ⟨g, k, none⟩ = some (.slice pva pb.length pvc) := ((HGW.out.kept hgb HNE.out).cell k).trans ((HGW.out.cell k).symm.trans x0))
          go_roundw
          case rel => exact ⟨k + 1, by omega, by go_num, by rw [HTS.out]; exact hown3, Below.trans hG hB3⟩
          case measure => simp [intOf]; omega
      · have hsp : 0 < s.length := List.length_pos_iff.2 hs0
        have hkm : k % s.length < s.length := Nat.mod_lt _ hsp
        obtain ⟨_, _, e9, -, -, -, hu4⟩ := HS.out.open
        simp only [Value.slice.injEq] at e9
        obtain ⟨rfl, -, rfl⟩ := e9
        obtain ⟨bu, ou, rfl, e0⟩ := hu4 (by omega)
        have e1 := e0 (k % s.length) _ (iiv_get s _ hkm)
        have hcs : n = (max (s[k % s.length]) 1).toNat := by
          rw [hn]
          unfold cutSize
          rw [if_neg hs0, List.getD_eq_getElem?_getD, List.getElem?_eq_getElem hkm, Option.getD_some]
        obtain ⟨hz1, hz2⟩ := HSB.out _ (List.getElem_mem hkm)
        generalize s[k % s.length] = z at e1 hcs hz1 hz2
        have hmod : Int.tmod (k : Int) (s.length : Int) = ((k % s.length : Nat) : Int) := by
          rw [Int.tmod_eq_emod_of_nonneg (by omega)]; rfl
        have hmax : max z 1 = (n : Int) := by omega
        have hq1 : ((k % s.length : Nat) : Int) < (s.length : Int) := by omega
        have hq0 : (0 : Int) ≤ ((k % s.length : Nat) : Int) := by omega
        have hqz : ¬ ((s.length : Int) = 0) := by omega
        generalize k % s.length = j at e1 hmod hq1 hq0 hkm
        have HE := Lib.hid (fun W (g : Grew w W) => (below_ext g) _ _ e1)
        clear e0 hcs hn hs0 hu4 e1
        rcases hlast with ⟨h1, h2⟩ | h1
        · have z4 : ((pb.length : Int) != (n : Int)) = false := by rw [h2]; simp
          clear h2
          go_wp2_with (at_builtin; refine wpList_push rfl _ _ rfl w2.heap.size _ _ rfl HO.out _ rfl pb HBP.out (by omega) hG.size ?_; intro v' w3 hown3 hB3 hgb; have x3 : w3.cell? ⟨g, k, none⟩ = some (.slice pva pb.length pvc) := ((HGW.out.kept hgb HNE.out).cell k).trans ((HGW.out.cell k).symm.trans x0); have e3 := HE.out w3 (G2.trans (Below.trans hG hB3)))
          go_roundw
          case rel => exact ⟨k + 1, by omega, by go_num, by rw [HTS.out]; exact hown3, Below.trans hG hB3⟩
          case measure => simp [intOf]; omega
        · go_wp2_with (at_builtin; refine wpList_push rfl _ _ rfl w2.heap.size _ _ rfl HO.out _ rfl pb HBP.out (by omega) hG.size ?_; intro v' w3 hown3 hB3 hgb; have x3 : w3.cell? ⟨g, k, none⟩ = some (.slice pva pb.length pvc) := ((HGW.out.kept hgb HNE.out).cell k).trans ((HGW.out.cell k).symm.trans x0); have e3 := HE.out w3 (G2.trans (Below.trans hG hB3)))
          go_roundw
          case rel => exact ⟨k + 1, by omega, by go_num, by rw [HTS.out]; exact hown3, Below.trans hG hB3⟩
          case measure => simp [intOf]; omega
    · obtain rfl : k = ps.length := by omega
      rw [List.take_length, List.flatMap_def, P3.out, cut_join] at hown
      have HO := Lib.hid hown
      obtain ⟨oa, oc, rfl⟩ := bs_len (Sl.of_own hown)
      clear hown
      go_wp2_with fail
      refine (same_any l l _ _ _ (Sl.of_own HO.out) (HB.out.grew (G2.trans hG))).mono ?_
      rintro e w3 ⟨rfl, d3⟩
      rw [show (l == l) = true by simp]
      go_wp2
      go_ret
      exact ⟨rfl, (G2.trans hG).trans d3.grew⟩
end Go.Proofs.Ytoinndlialimcaa
