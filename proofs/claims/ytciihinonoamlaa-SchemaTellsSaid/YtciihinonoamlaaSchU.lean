/- The law SchemaTells returns true: its walk. -/
import Derived.Test.YtciihinonoamlaaSchV
import Derived.Test.YtciihinonoamlaaSchT
namespace Go.Proofs.Ytciihinonoamlaa
open Go Go.RowKit Go.Shelf

/-- how many kinds below k there are -/
def cntK (R : List Row) (k : Nat) : Nat := ((List.range k).filter fun j => decide (j ≠ 0) && !(ofKind j R).isEmpty).length
theorem rowsIn_cases (ver : Int) : rowsIn ver = [] ∨ rowsIn ver = rowsIn 1 ∨ rowsIn ver = rowsIn 2 ∨ rowsIn ver = rowsIn 3 := by
  by_cases h : ver < 1 ∨ 3 < ver
  · left; unfold rowsIn; rw [if_pos h]
  · have : ver = 1 ∨ ver = 2 ∨ ver = 3 := by omega
    rcases this with rfl | rfl | rfl
    · exact .inr (.inl rfl)
    · exact .inr (.inr (.inl rfl))
    · exact .inr (.inr (.inr rfl))
def KindsFit (R : List Row) : Prop := cntK R 1 = 0 ∧ cntK R 11 = (kindsOf R).length ∧ ∀ k, k < 11 → k ≠ 0 → if ofKind k R = [] then cntK R (k + 1) = cntK R k else cntK R (k + 1) = cntK R k + 1 ∧ (kindsOf R)[cntK R k]? = some (UInt8.ofNat k)
instance (R : List Row) : Decidable (KindsFit R) := by unfold KindsFit; infer_instance
theorem kinds_fit (ver : Int) : KindsFit (rowsIn ver) := by
  rcases rowsIn_cases ver with h | h | h | h <;> rw [h] <;> decide
theorem foundV_form (X : Option Row) : ∃ (c0 c1 c2 : Int) (is : Bool), foundV X = #[.agg #[.int .i64 c0, .int .i64 c1, .int .i64 c2], .bool is] := by
  cases X with
  | none => exact ⟨0, 0, 0, false, rfl⟩
  | some r => exact ⟨_, _, _, true, rfl⟩

set_option maxRecDepth 10000 in
set_option maxHeartbeats 4000000 in
theorem tells_law (kind : Nat) (ver num : Int) (w : World) : Calls Try.prog 3 #[.int .u8 kind, .int .i64 ver, .int .i64 num] w fun e w' => e = .returned (.bool true) ∧ Grew w w' := by
  obtain ⟨x0, x1, x2, is, hX⟩ := foundV_form ((rowsIn ver).find? (isField kind num))
  have HX := Lib.hid hX
  have hlen : (ofKind kind (rowsIn ver)).length ≤ 40 := Nat.le_trans (List.length_filter_le _ _) (rowsIn_len ver)
  obtain ⟨L, hL⟩ : ∃ L, ofKind kind (rowsIn ver) = L := ⟨_, rfl⟩
  have h1 := of_any kind ver
  have h2 := rof_any kind ver
  rw [hL] at hlen
  simp only [hL] at h1 h2
  have H1 := Lib.hid h1
  have H2 := Lib.hid h2
  clear hX hL h1 h2
  go_enter Try.func3, Try.ntmps3
  go_wp2_with fail
  refine (live_any _).mono ?_
  rintro e w1 ⟨rfl, g1⟩
  go_wp2_with fail
  refine (H1.out _).mono ?_
  rintro e w2 ⟨v2, rfl, o2, g2⟩
  obtain ⟨a2, c2, rfl, -⟩ := (Sl.of_own o2).open
  have s2 := Sl.of_own o2
  clear o2
  go_wp2_with fail
  refine (H2.out _).mono ?_
  rintro e w3 ⟨v3, rfl, o3, g3⟩
  obtain ⟨a3, c3, rfl, -⟩ := (Sl.of_own o3).open
  have s3 := Sl.of_own o3
  clear o3
  go_wp2_with fail
  refine (find_any kind ver num _).mono ?_
  rintro e w4 ⟨rfl, g4⟩
  rw [HX.out]
  go_wp2_with fail
  refine (rfind_any kind ver num _).mono ?_
  rintro e w5 ⟨rfl, g5⟩
  rw [HX.out]
  have bx := (Blk.new w4 28 #[.int .i64 x0, .int .i64 x1, .int .i64 x2]).grew g5
  have bx2 := bx.alloc (.cells #[.int .i64 x0, .int .i64 x1, .int .i64 x2] 28)
  have by2 := Blk.new w5 28 #[.int .i64 x0, .int .i64 x1, .int .i64 x2]
  have g25 : Grew w2 (w5.alloc (.cells #[.int .i64 x0, .int .i64 x1, .int .i64 x2] 28)) := Grew.trans (Grew.trans (Grew.trans g3 g4) (Grew.trans (grew_alloc _ _) g5)) (grew_alloc _ _)
  have g35 : Grew w3 (w5.alloc (.cells #[.int .i64 x0, .int .i64 x1, .int .i64 x2] 28)) := Grew.trans (Grew.trans g4 (Grew.trans (grew_alloc _ _) g5)) (grew_alloc _ _)
  have g05 := Grew.trans (Grew.trans g1 g2) g25
  have s2' := s2.grew g25
  have s3' := s3.grew g35
  clear s2 s3 g25 g35 g1 g2 g3 g4 g5 bx
  go_wp2_with fail
  refine (specs_any L L _ _ _ s2' s3' (by omega) (by omega)).mono ?_
  rintro e w6 ⟨rfl, n6, rfl⟩
  have hsp : (L.map specT == L.map specT) = true := by simp
  rw [hsp]
  have x0' := bx2.cell 0
  have x1' := bx2.cell 1
  have x2' := bx2.cell 2
  have y0' := by2.cell 0
  have y1' := by2.cell 1
  have y2' := by2.cell 2
  simp at x0' x1' x2' y0' y1' y2'
  go_wp2_with fail
  refine (kinds_any ver _).mono ?_
  rintro e w7 ⟨v7, rfl, o7, g7⟩
  have g07 : Grew w w7 := Grew.trans (Grew.trans g05 (Drew.grew ⟨n6, rfl⟩)) g7
  clear g05 g7 hsp x0' x1' x2' y0' y1' y2' bx2 by2 s2' s3' H1 H2 HX
  obtain ⟨kf1, kf2, kf3⟩ := kinds_fit ver
  obtain ⟨R, hR⟩ : ∃ R, rowsIn ver = R := ⟨_, rfl⟩
  have hrof := fun k => rof_any k ver
  simp only [hR] at o7 kf1 kf2 kf3 hrof
  have HRO := Lib.hid hrof
  have KF1 := Lib.hid kf1
  have KF2 := Lib.hid kf2
  have KF3 := Lib.hid kf3
  clear hR hrof kf1 kf2 kf3
  obtain ⟨a7, c7, rfl, l1, l2, l3, hcell⟩ := (Sl.of_own o7).open
  clear l3 o7
  unfold maxLen at l2
  go_wp2_with fail
  go_loopw [15, 16] (fun n i wr => ∃ k : Nat, 1 ≤ k ∧ k ≤ 11 ∧ i = .int .i64 k ∧ n = .int .i64 (cntK R k : Nat) ∧ cntK R k ≤ k ∧ Grew w7 wr) (fun _ i _ => 11 - (intOf i).toNat)
  case atStart => exact ⟨1, by omega, by omega, rfl, by rw [KF1.out]; rfl, by rw [KF1.out]; omega, Below.refl _ _⟩
  case round =>
    obtain ⟨k, hk1, hk2, rfl, rfl, hkc, hg⟩ := hrel
    by_cases hlt : k ≤ 10
    · have hf := KF3.out k (by omega) (by omega)
      go_wp2_with fail
      refine (HRO.out k _).mono ?_
      rintro e w8 ⟨v8, rfl, o8, g8⟩
      obtain ⟨a8, c8, rfl, -⟩ := (Sl.of_own o8).open
      by_cases he : ofKind k R = []
      · rw [if_pos he] at hf
        rw [he]
        have HF := Lib.hid hf
        clear hf o8 hcell
        go_wp2
        go_roundw
        case rel => exact ⟨k + 1, by omega, by omega, by go_num, by rw [HF.out], by rw [HF.out]; omega, Grew.trans hg g8⟩
        case measure => simp [intOf]; omega
      · rw [if_neg he] at hf
        obtain ⟨hf1, hf2⟩ := hf
        obtain ⟨N, hN⟩ : ∃ N, cntK R k = N := ⟨_, rfl⟩
        rw [hN] at hf1 hf2 hkc ⊢
        have hn := (List.getElem?_eq_some_iff.1 hf2).1
        obtain ⟨b, off, rfl, hc⟩ := hcell (by omega)
        have c1 := (below_ext (Grew.trans hg g8)) _ _ (hc N (.int .u8 k) (by
          have h := bv_get (kindsOf R) N hn
          rw [List.getElem?_eq_getElem hn, Option.some.injEq] at hf2
          rw [h, hf2, UInt8.toNat_ofNat']
          congr 3
          omega))
        have hpos : 0 < (ofKind k R).length := List.length_pos_iff.2 he
        have hz : (((ofKind k R).length : Int) == 0) = false := by simp; omega
        have HF := Lib.hid hf1
        have HN := Lib.hid hN
        clear hf1 hf2 hcell hc o8 hN he
        go_wp2
        go_roundw
        case rel => exact ⟨k + 1, by omega, by omega, by go_num, by rw [HF.out]; go_num, by rw [HF.out]; omega, Grew.trans hg g8⟩
        case measure => simp [intOf]; omega
    · obtain rfl : k = 11 := by omega
      clear hcell hkc
      rw [KF2.out]
      go_wp2
      go_ret
      exact ⟨rfl, Grew.trans g07 hg⟩
end Go.Proofs.Ytciihinonoamlaa
