/- The law SchemaWords returns true: its walk. -/
import Derived.Test.YtciihinonoamlaaSchV
namespace Go.Proofs.Ytciihinonoamlaa
open Go Go.RowKit Go.Shelf

theorem wordsV_get : ∀ k : Nat, k < 10 → wordsV[k]? = some (.string (wordAt k))
  | 0, _ => rfl
  | 1, _ => rfl
  | 2, _ => rfl
  | 3, _ => rfl
  | 4, _ => rfl
  | 5, _ => rfl
  | 6, _ => rfl
  | 7, _ => rfl
  | 8, _ => rfl
  | 9, _ => rfl
  | n + 10, h => absurd h (by omega)
theorem kindV_at (s : ByteArray) (k : Nat) (hk : k < 10) (h0 : (List.range k).find? (fun k => (wordAt k).toList == s.toList) = none) (h : ((wordAt k).toList == s.toList) = true) : kindV s = ((k : Int) + 1, true) := by
  have : kindAt s = some k := by
    unfold kindAt
    have h10 : List.range 10 = List.range k ++ (List.range' k (10 - k)) := by
      rw [List.range_eq_range', List.range_eq_range']; have := List.range'_append_1 (s := 0) (m := k) (n := 10 - k); rw [Nat.zero_add] at this; rw [this]; congr 1; omega
    rw [h10, List.find?_append, h0]
    obtain ⟨m, hm⟩ : ∃ m, 10 - k = m + 1 := ⟨9 - k, by omega⟩
    rw [hm, List.range'_succ]
    simp [h]
  simp [kindV, this]

set_option maxRecDepth 10000 in
set_option maxHeartbeats 4000000 in
theorem words_law (k : Nat) (s : ByteArray) (w : World) : Calls Try.prog 5 #[.int .u8 k, .string s] w fun e w' => e = .returned (.bool true) ∧ Grew w w' := by
  have hz := zero_words
  have hst := fun (W : World) => run_storeCells_new (P := Try.prog) W 40 (Array.replicate 10 (.string ⟨#[]⟩)) wordsV (by kernel_rfl) rfl (by kernel_rfl)
  have hsz : wordsV.size = 10 := rfl
  go_enter Try.func5, Try.ntmps5
  go_wp2_with fail
  refine (live_any _).mono ?_
  rintro e w1 ⟨rfl, g1⟩
  by_cases hl : 100 < s.size
  · go_wp2
    go_ret
    exact ⟨rfl, g1⟩
  · go_wp2_with fail
    refine (rwords_any _).mono ?_
    rintro e w2 ⟨rfl, g2⟩
    have g02 := Grew.trans g1 g2
    clear g1 g2
    have hb := Blk.new w2 40 wordsV
    by_cases h1 : 1 ≤ (k : Int)
    · by_cases h2 : (k : Int) ≤ 10
      · obtain ⟨m, rfl⟩ : ∃ m, k = m + 1 := ⟨k - 1, by omega⟩
        have c0 := hb.cell m
        rw [wordsV_get m (by omega)] at c0
        have hw : wordV (m + 1) = wordAt m := by simp [wordV]; omega
        have HW := Lib.hid hw
        clear hw
        go_wp2_with fail
        refine (word_any (m + 1) _).mono ?_
        rintro e w3 ⟨rfl, g3⟩
        rw [HW.out]
        go_wp2_with fail
        refine (kind_any s _).mono ?_
        rintro e w4 ⟨rfl, g4⟩
        have hb2 := (hb.grew g3).grew g4
        have g04 : Grew w w4 := Grew.trans (Below.trans (g02.alloc g02.size _) (g3.mono (by have := g02.size; simp; omega))) g4
        clear g02 g3 g4 hb hst
        go_wp2_with fail
        go_loop [9] (fun i => ∃ j : Nat, j ≤ 10 ∧ i = .int .i64 j ∧ Hid ((List.range j).find? (fun k => (wordAt k).toList == s.toList) = none)) (fun i => 10 - (intOf i).toNat)
        case atStart => exact ⟨0, by omega, rfl, rfl⟩
        case round =>
          obtain ⟨j, hj, rfl, HN⟩ := hrel
          by_cases hlt : j < 10
          · have c1 := hb2.cell j
            rw [wordsV_get j hlt] at c1
            by_cases he : (wordAt j).toList = s.toList
            · have hbq : ((wordAt j).toList == s.toList) = true := by rw [he]; simp
              have HV := Lib.hid (kindV_at s j hlt HN.out hbq)
              clear he
              rw [HV.out]
              go_wp2
              go_ret
              exact ⟨rfl, g04⟩
            · have hbq : ((wordAt j).toList == s.toList) = false := beq_eq_false_iff_ne.2 he
              clear he
              go_wp2
              go_round
              case rel => exact ⟨j + 1, by omega, by go_num, by unfold Hid; rw [List.range_succ, List.find?_append, HN.out]; simp [hbq]⟩
              case measure => simp [intOf]; omega
          · obtain rfl : j = 10 := by omega
            have HV : Hid (kindV s = (0, false)) := by simp only [Hid, kindV, kindAt, HN.out]
            rw [HV.out]
            go_wp2
            go_ret
            exact ⟨rfl, g04⟩
      · have hw : wordV k = ⟨#[]⟩ := by unfold wordV; rw [if_pos (by omega)]
        have HW := Lib.hid hw
        clear hw
        go_wp2_with fail
        refine (word_any k _).mono ?_
        rintro e w3 ⟨rfl, g3⟩
        rw [HW.out]
        go_wp2_with fail
        refine (kind_any s _).mono ?_
        rintro e w4 ⟨rfl, g4⟩
        have hb2 := (hb.grew g3).grew g4
        have g04 : Grew w w4 := Grew.trans (Below.trans (g02.alloc g02.size _) (g3.mono (by have := g02.size; simp; omega))) g4
        clear g02 g3 g4 hb hst
        go_wp2_with fail
        go_loop [9] (fun i => ∃ j : Nat, j ≤ 10 ∧ i = .int .i64 j ∧ Hid ((List.range j).find? (fun k => (wordAt k).toList == s.toList) = none)) (fun i => 10 - (intOf i).toNat)
        case atStart => exact ⟨0, by omega, rfl, rfl⟩
        case round =>
          obtain ⟨j, hj, rfl, HN⟩ := hrel
          by_cases hlt : j < 10
          · have c1 := hb2.cell j
            rw [wordsV_get j hlt] at c1
            by_cases he : (wordAt j).toList = s.toList
            · have hbq : ((wordAt j).toList == s.toList) = true := by rw [he]; simp
              have HV := Lib.hid (kindV_at s j hlt HN.out hbq)
              clear he
              rw [HV.out]
              go_wp2
              go_ret
              exact ⟨rfl, g04⟩
            · have hbq : ((wordAt j).toList == s.toList) = false := beq_eq_false_iff_ne.2 he
              clear he
              go_wp2
              go_round
              case rel => exact ⟨j + 1, by omega, by go_num, by unfold Hid; rw [List.range_succ, List.find?_append, HN.out]; simp [hbq]⟩
              case measure => simp [intOf]; omega
          · obtain rfl : j = 10 := by omega
            have HV : Hid (kindV s = (0, false)) := by simp only [Hid, kindV, kindAt, HN.out]
            rw [HV.out]
            go_wp2
            go_ret
            exact ⟨rfl, g04⟩
    · have hw : wordV k = ⟨#[]⟩ := by unfold wordV; rw [if_pos (by omega)]
      have HW := Lib.hid hw
      clear hw
      go_wp2_with fail
      refine (word_any k _).mono ?_
      rintro e w3 ⟨rfl, g3⟩
      rw [HW.out]
      go_wp2_with fail
      refine (kind_any s _).mono ?_
      rintro e w4 ⟨rfl, g4⟩
      have hb2 := (hb.grew g3).grew g4
      have g04 : Grew w w4 := Grew.trans (Below.trans (g02.alloc g02.size _) (g3.mono (by have := g02.size; simp; omega))) g4
      clear g02 g3 g4 hb hst
      go_wp2_with fail
      go_loop [9] (fun i => ∃ j : Nat, j ≤ 10 ∧ i = .int .i64 j ∧ Hid ((List.range j).find? (fun k => (wordAt k).toList == s.toList) = none)) (fun i => 10 - (intOf i).toNat)
      case atStart => exact ⟨0, by omega, rfl, rfl⟩
      case round =>
        obtain ⟨j, hj, rfl, HN⟩ := hrel
        by_cases hlt : j < 10
        · have c1 := hb2.cell j
          rw [wordsV_get j hlt] at c1
          by_cases he : (wordAt j).toList = s.toList
          · have hbq : ((wordAt j).toList == s.toList) = true := by rw [he]; simp
            have HV := Lib.hid (kindV_at s j hlt HN.out hbq)
            clear he
            rw [HV.out]
            go_wp2
            go_ret
            exact ⟨rfl, g04⟩
          · have hbq : ((wordAt j).toList == s.toList) = false := beq_eq_false_iff_ne.2 he
            clear he
            go_wp2
            go_round
            case rel => exact ⟨j + 1, by omega, by go_num, by unfold Hid; rw [List.range_succ, List.find?_append, HN.out]; simp [hbq]⟩
            case measure => simp [intOf]; omega
        · obtain rfl : j = 10 := by omega
          have HV : Hid (kindV s = (0, false)) := by simp only [Hid, kindV, kindAt, HN.out]
          rw [HV.out]
          go_wp2
          go_ret
          exact ⟨rfl, g04⟩
end Go.Proofs.Ytciihinonoamlaa
