/- rescriptref11.Belongs: contract. -/
import Derived.Test.YtbjoohafgkodcaaGreatWl3
import Derived.Test.YtbjoohafgkodcaaGreatHld
import Derived.Test.YtbjoohafgkodcaaGreatSchT
namespace Go.Proofs.YtbjoohafgkodcaaGreat
open Go Go.RowKit Go.Shelf
attribute [local go_sem] Oper.semAt_some

theorem finR_mem {k : Nat} {ver : Int} {x : Fld} {r : Row} (h : finR k ver x = some r) : r ∈ rowsAll := by
  unfold finR at h
  have hm := List.mem_of_find?_eq_some h
  unfold rowsIn at hm
  split at hm
  · cases hm
  · exact (List.mem_filter.1 hm).1
theorem okP_ref (k : Nat) (ver : Int) (x : Fld) : ((finR k ver x).isSome && (rwireV (spT (finR k ver x)) == (fWire x : Int))) = okP k ver x := by
  unfold okP
  cases h : finR k ver x with
  | none => rfl
  | some r =>
    obtain ⟨t1, t2, -, -⟩ := rows_ok r (finR_mem h)
    simp only [rTyp] at t1 t2
    have e := (rwireV_eq (t := (r.2.2.1 : Int)) (by omega) (by omega)).1
    simp only [spT, e]
set_option maxRecDepth 100000 in
set_option maxHeartbeats 4000000 in
theorem belongs_any (k : Nat) (ver : Int) (x : Fld) (xv : Value) (w : World) (hb : Bs w xv (fB x)) :
    Calls Tryz.prog 51 #[.int .u8 k, .int .i64 ver, fldA x xv] w fun e w' => e = .returned (.tuple #[.agg #[.int .i64 (spN (finR k ver x)), .int .i64 (spT (finR k ver x)), .int .i64 (spS (finR k ver x))], .bool (okP k ver x)]) ∧ Grew w w' := by
  obtain ⟨xa, xc, rfl⟩ := bs_len hb
  obtain ⟨W0, hW0⟩ : ∃ W0, W0 = (w.alloc (.cells #[.int .i64 x.1, .int .u8 (x.2.1 : Nat), .int .u64 (x.2.2.1 : Nat), .slice xa (fB x).length xc, .int .i64 x.2.2.2.2] 101)).alloc (.cells #[.int .i64 0, .int .i64 0, .int .i64 0] 82) := ⟨_, rfl⟩
  have g0 : Grew w W0 := by rw [hW0]; exact ((Below.refl _ _).alloc (Nat.le_refl _) _).alloc (by simp) _
  have k0 : Blk W0 w.heap.size 101 #[.int .i64 x.1, .int .u8 (x.2.1 : Nat), .int .u64 (x.2.2.1 : Nat), .slice xa (fB x).length xc, .int .i64 x.2.2.2.2] := by rw [hW0]; exact (Blk.new _ _ _).alloc _
  have k1 : Blk W0 (w.heap.size + 1) 82 #[.int .i64 0, .int .i64 0, .int .i64 0] := by rw [hW0]; exact Blk.at (by simp)
  have G0 := Lib.hid g0
  have K0 := Lib.hid k0
  have K1 := Lib.hid k1
  have KF := Lib.hid (fun W => rfind_any k ver (fNum x) W)
  have KW := Lib.hid (fun t W => rwire8_any t W)
  have HO := okP_ref k ver x
  obtain ⟨F, hF⟩ : ∃ F, F = finR k ver x := ⟨_, rfl⟩
  rw [← hF] at HO ⊢
  have HF := Lib.hid hF
  have HOK := Lib.hid HO
  clear g0 k0 k1 hb hF HO
  go_enter Tryz.func51, Tryz.ntmps51
  go_upto_region 1 with (fail)
  rw [← hW0]
  clear hW0
  obtain ⟨y0, y1, y2, y3, y4, -⟩ := cells5 K0.out
  go_wp2_with fail
  refine (KF.out _).mono ?_
  rw [show (rowsIn ver).find? (isField k (fNum x)) = F from HF.out.symm, foundV_sp]
  rintro e w1 ⟨rfl, g1⟩
  obtain ⟨wa, hwa⟩ : ∃ wa, wa = w1.alloc (.cells #[.int .i64 (spN F), .int .i64 (spT F), .int .i64 (spS F)] 82) := ⟨_, rfl⟩
  have ga : Grew w1 wa := by rw [hwa]; exact grew_alloc _ _
  have ka : Blk wa w1.heap.size 82 #[.int .i64 (spN F), .int .i64 (spT F), .int .i64 (spS F)] := by rw [hwa]; exact Blk.new _ _ _
  have B0 := Lib.hid ((K0.out.grew g1).grew ga)
  have B1 := Lib.hid ((K1.out.grew g1).grew ga)
  have KA := Lib.hid ka
  have GA := Lib.hid ((G0.out.trans g1).trans ga)
  have hz : w.heap.size + 1 < w1.heap.size := (K1.out.grew g1).lt
  clear y0 y1 y2 y3 y4 ga ka g1
  go_upto_region 2 with (fail)
  rw [← hwa]
  clear hwa
  have kb0 := B0.out
  have kka := KA.out
  cases hs : F.isSome
  · rw [hs] at HOK
    clear hs
    refine wp_region_heldN (S := fun V => Blk V w1.heap.size 82 #[.int .i64 (spN F), .int .i64 (spT F), .int .i64 (spS F)] ∧ Blk V w.heap.size 101 #[.int .i64 x.1, .int .u8 (x.2.1 : Nat), .int .u64 (x.2.2.1 : Nat), .slice xa (fB x).length xc, .int .i64 x.2.2.2.2]) (by kernel_rfl) ⟨kka.drew, kb0.drew⟩ (fun hHeld => ?_)
    clear kka kb0
    refine wpAnyH_take (i := 0) (oi := ⟨some 18, _, _, _, _, _⟩) (v := .agg #[.int .i64 (spN F), .int .i64 (spT F), .int .i64 (spS F)]) rfl (by kernel_rfl) (by kernel_rfl) (by kernel_rfl) (fun _ _ _ h => h) (y_row 82 _ rfl w1.heap.size rfl 82 _ _ (fun V h => h.1) Tryz.underlying82 rfl (by kernel_rfl) rfl) (by assumption) ?_
    simp only [Act.put, List.setIfInBounds_toArray, List.set_cons_zero, List.set_cons_succ]
    refine wpAnyH_take (i := 1) (oi := ⟨some 19, _, _, _, _, _⟩) (v := .bool false) rfl (by kernel_rfl) (by kernel_rfl) (by kernel_rfl) (fun _ _ _ h => h) (Or.inl ⟨by rfl, ?_⟩) (by assumption) ?_
    · intro V hV
      go_simp
      try rfl
    simp only [Act.put, List.setIfInBounds_toArray, List.set_cons_zero, List.set_cons_succ]
    refine wpAnyH_take (i := 2) (oi := ⟨some 20, _, _, _, _, _⟩) (v := .bool false) rfl (by kernel_rfl) (by kernel_rfl) (by kernel_rfl) (fun _ _ _ h => h) (Or.inl ⟨by rfl, ?_⟩) (by assumption) ?_
    · intro V hV
      go_simp
      try rfl
    simp only [Act.put, List.setIfInBounds_toArray, List.set_cons_zero, List.set_cons_succ]
    refine wpAnyH_take (i := 3) (oi := ⟨some 21, _, _, _, _, _⟩) (v := undef) rfl (by kernel_rfl) (by kernel_rfl) (by kernel_rfl) (fun _ _ _ h => h) (Or.inr ⟨by rfl, rfl⟩) (by assumption) ?_
    simp only [Act.put, List.setIfInBounds_toArray, List.set_cons_zero, List.set_cons_succ]
    refine wpAnyH_take (i := 4) (oi := ⟨some 22, _, _, _, _, _⟩) (v := undef) rfl (by kernel_rfl) (by kernel_rfl) (by kernel_rfl) (fun _ _ _ h => h) (Or.inr ⟨by rfl, rfl⟩) (by assumption) ?_
    simp only [Act.put, List.setIfInBounds_toArray, List.set_cons_zero, List.set_cons_succ]
    refine wpAnyH_take (i := 5) (oi := ⟨some 23, _, _, _, _, _⟩) (v := undef) rfl (by kernel_rfl) (by kernel_rfl) (by kernel_rfl) (fun _ _ _ h => h) (Or.inr ⟨by rfl, rfl⟩) (by assumption) ?_
    simp only [Act.put, List.setIfInBounds_toArray, List.set_cons_zero, List.set_cons_succ]
    refine wpAnyH_take (i := 6) (oi := ⟨some 24, _, _, _, _, _⟩) (v := undef) rfl (by kernel_rfl) (by kernel_rfl) (by kernel_rfl) (fun _ _ _ h => h) (Or.inr ⟨by rfl, rfl⟩) (by assumption) ?_
    simp only [Act.put, List.setIfInBounds_toArray, List.set_cons_zero, List.set_cons_succ]
    refine wpAnyH_take (i := 7) (oi := ⟨some 25, _, _, _, _, _⟩) (v := undef) rfl (by kernel_rfl) (by kernel_rfl) (by kernel_rfl) (fun _ _ _ h => h) (Or.inr ⟨by rfl, rfl⟩) (by assumption) ?_
    simp only [Act.put, List.setIfInBounds_toArray, List.set_cons_zero, List.set_cons_succ]
    refine wpAnyH_take (i := 8) (oi := ⟨some 26, _, _, _, _, _⟩) (v := undef) rfl (by kernel_rfl) (by kernel_rfl) (by kernel_rfl) (fun _ _ _ h => h) (Or.inr ⟨by rfl, rfl⟩) (by assumption) ?_
    simp only [Act.put, List.setIfInBounds_toArray, List.set_cons_zero, List.set_cons_succ]
    refine wpAnyH_take (i := 9) (oi := ⟨some 27, _, _, _, _, _⟩) (v := .bool false) rfl (by kernel_rfl) (by kernel_rfl) (by kernel_rfl) (fun _ _ _ h => h) (Or.inl ⟨by rfl, ?_⟩) (by assumption) ?_
    · intro V hV
      go_simp
      try rfl
    simp only [Act.put, List.setIfInBounds_toArray, List.set_cons_zero, List.set_cons_succ]
    refine wpAnyH_ready (rs := [10]) (by kernel_rfl) (by simp) ?_
    refine AllReadyH.cons (o := _) rfl (fun K hK => ?_) AllReadyH.nil
    refine wp_store_row 82 _ _ rfl (w.heap.size + 1) #[.int .i64 (spN F), .int .i64 (spT F), .int .i64 (spS F)] rfl rfl 82 _ B1.out.drew (by kernel_rfl) rfl (by simp [Value.oneCell']) ?_
    refine hK.out _ _ ⟨hHeld.1.rowOther (by omega), hHeld.2.rowOther (by omega)⟩ (fun hHeld => ?_)
    clear hK K
    simp only [Act.put]
    refine wpAnyH_take (i := 11) (oi := ⟨some 7, _, _, _, _, _⟩) (v := .bool false) rfl (by kernel_rfl) (by kernel_rfl) (by kernel_rfl) (fun _ _ _ h => h) (Or.inl ⟨by rfl, ?_⟩) (by assumption) ?_
    · intro V hV
      go_simp
      try rfl
    simp only [Act.put, List.setIfInBounds_toArray]
    refine wpAnyH_done (by kernel_rfl) ?_ _
    have R1 := Lib.hid (B1.out.drew.row #[.int .i64 (spN F), .int .i64 (spT F), .int .i64 (spS F)])
    have R3 := Lib.hid (below_setRow (GA.out.trans (Drew.grew ⟨1, rfl⟩ : Grew _ wa.drew)) (show w.heap.size ≤ w.heap.size + 1 by omega) #[.int .i64 (spN F), .int .i64 (spT F), .int .i64 (spS F)])
    clear hHeld
    simp only [onlyN]
    go_wp2
    refine bodyPost_ret (results_ct rfl _ _ _ _ _ rfl rfl (loadVar_spec _ _ _ rfl R1.out)) rfl ?_
    exact ⟨by rw [← HOK.out]; rfl, R3.out⟩
  · rw [hs] at HOK
    clear hs
    refine wp_region_heldN (S := fun V => Blk V w1.heap.size 82 #[.int .i64 (spN F), .int .i64 (spT F), .int .i64 (spS F)] ∧ Blk V w.heap.size 101 #[.int .i64 x.1, .int .u8 (x.2.1 : Nat), .int .u64 (x.2.2.1 : Nat), .slice xa (fB x).length xc, .int .i64 x.2.2.2.2]) (by kernel_rfl) ⟨kka.drew, kb0.drew⟩ (fun hHeld => ?_)
    clear kka kb0
    refine wpAnyH_take (i := 0) (oi := ⟨some 18, _, _, _, _, _⟩) (v := .agg #[.int .i64 (spN F), .int .i64 (spT F), .int .i64 (spS F)]) rfl (by kernel_rfl) (by kernel_rfl) (by kernel_rfl) (fun _ _ _ h => h) (y_row 82 _ rfl w1.heap.size rfl 82 _ _ (fun V h => h.1) Tryz.underlying82 rfl (by kernel_rfl) rfl) (by assumption) ?_
    simp only [Act.put, List.setIfInBounds_toArray, List.set_cons_zero, List.set_cons_succ]
    refine wpAnyH_take (i := 1) (oi := ⟨some 19, _, _, _, _, _⟩) (v := .bool true) rfl (by kernel_rfl) (by kernel_rfl) (by kernel_rfl) (fun _ _ _ h => h) (Or.inl ⟨by rfl, ?_⟩) (by assumption) ?_
    · intro V hV
      go_simp
      try rfl
    simp only [Act.put, List.setIfInBounds_toArray, List.set_cons_zero, List.set_cons_succ]
    refine wpAnyH_take (i := 2) (oi := ⟨some 20, _, _, _, _, _⟩) (v := .bool true) rfl (by kernel_rfl) (by kernel_rfl) (by kernel_rfl) (fun _ _ _ h => h) (Or.inl ⟨by rfl, ?_⟩) (by assumption) ?_
    · intro V hV
      go_simp
      try rfl
    simp only [Act.put, List.setIfInBounds_toArray, List.set_cons_zero, List.set_cons_succ]
    refine wpAnyH_take (i := 3) (oi := ⟨some 21, _, _, _, _, _⟩) (v := .pointer (some ⟨w1.heap.size, 1, none⟩)) rfl (by kernel_rfl) (by kernel_rfl) (by kernel_rfl) (fun _ _ _ h => h) (Or.inl ⟨by rfl, ?_⟩) (by assumption) ?_
    · intro V hV
      go_simp
      try rfl
    simp only [Act.put, List.setIfInBounds_toArray, List.set_cons_zero, List.set_cons_succ]
    refine wpAnyH_take (i := 4) (oi := ⟨some 22, _, _, _, _, _⟩) (v := .int .i64 (spT F)) rfl (by kernel_rfl) (by kernel_rfl) (by kernel_rfl) (fun _ _ _ h => h) (Or.inl ⟨by rfl, ?_⟩) (by assumption) ?_
    · intro V hV
      obtain ⟨y0, y1, y2, y3, y4, -⟩ := cells5 hV.2
      have d1 := hV.1.cell 1
      simp only [List.getElem?_toArray, List.getElem?_cons_zero, List.getElem?_cons_succ] at d1
      go_simp
      try rfl
    simp only [Act.put, List.setIfInBounds_toArray, List.set_cons_zero, List.set_cons_succ]
    refine wpAnyH_take (i := 6) (oi := ⟨some 24, _, _, _, _, _⟩) (v := .pointer (some ⟨w.heap.size, 1, none⟩)) rfl (by kernel_rfl) (by kernel_rfl) (by kernel_rfl) (fun _ _ _ h => h) (Or.inl ⟨by rfl, ?_⟩) (by assumption) ?_
    · intro V hV
      go_simp
      try rfl
    simp only [Act.put, List.setIfInBounds_toArray, List.set_cons_zero, List.set_cons_succ]
    refine wpAnyH_take (i := 7) (oi := ⟨some 25, _, _, _, _, _⟩) (v := .int .u8 (x.2.1 : Nat)) rfl (by kernel_rfl) (by kernel_rfl) (by kernel_rfl) (fun _ _ _ h => h) (Or.inl ⟨by rfl, ?_⟩) (by assumption) ?_
    · intro V hV
      obtain ⟨y0, y1, y2, y3, y4, -⟩ := cells5 hV.2
      have d1 := hV.1.cell 1
      simp only [List.getElem?_toArray, List.getElem?_cons_zero, List.getElem?_cons_succ] at d1
      go_simp
      try rfl
    simp only [Act.put, List.setIfInBounds_toArray, List.set_cons_zero, List.set_cons_succ]
    refine wpAnyH_ready (rs := [5]) (by kernel_rfl) (by simp) ?_
    refine AllReadyH.cons (o := _) rfl (fun K hK => ?_) AllReadyH.nil
    go_simp
    refine (KW.out _ _).mono ?_
    rintro e w6 ⟨rfl, rfl⟩
    go_simp
    refine hK.out _ _ hHeld (fun _ => ?_)
    clear hK K
    (try simp only [Act.put, List.setIfInBounds_toArray, List.set_cons_zero, List.set_cons_succ])
    refine wpAnyH_take (i := 8) (oi := ⟨some 26, _, _, _, _, _⟩) (v := .bool (rwireV (spT F) == (x.2.1 : Int))) rfl (by kernel_rfl) (by kernel_rfl) (by kernel_rfl) (fun _ _ _ h => h) (Or.inl ⟨by rfl, ?_⟩) (by assumption) ?_
    · intro V hV
      go_simp
      try rfl
    simp only [Act.put, List.setIfInBounds_toArray, List.set_cons_zero, List.set_cons_succ]
    refine wpAnyH_take (i := 9) (oi := ⟨some 27, _, _, _, _, _⟩) (v := .bool (rwireV (spT F) == (x.2.1 : Int))) rfl (by kernel_rfl) (by kernel_rfl) (by kernel_rfl) (fun _ _ _ h => h) (Or.inl ⟨by rfl, ?_⟩) (by assumption) ?_
    · intro V hV
      go_simp
      try rfl
    simp only [Act.put, List.setIfInBounds_toArray, List.set_cons_zero, List.set_cons_succ]
    refine wpAnyH_ready (rs := [10]) (by kernel_rfl) (by simp) ?_
    refine AllReadyH.cons (o := _) rfl (fun K hK => ?_) AllReadyH.nil
    refine wp_store_row 82 _ _ rfl (w.heap.size + 1) #[.int .i64 (spN F), .int .i64 (spT F), .int .i64 (spS F)] rfl rfl 82 _ B1.out.drew (by kernel_rfl) rfl (by simp [Value.oneCell']) ?_
    refine hK.out _ _ ⟨hHeld.1.rowOther (by omega), hHeld.2.rowOther (by omega)⟩ (fun hHeld => ?_)
    clear hK K
    simp only [Act.put]
    refine wpAnyH_take (i := 11) (oi := ⟨some 7, _, _, _, _, _⟩) (v := .bool (rwireV (spT F) == (x.2.1 : Int))) rfl (by kernel_rfl) (by kernel_rfl) (by kernel_rfl) (fun _ _ _ h => h) (Or.inl ⟨by rfl, ?_⟩) (by assumption) ?_
    · intro V hV
      go_simp
      try rfl
    simp only [Act.put, List.setIfInBounds_toArray]
    refine wpAnyH_done (by kernel_rfl) ?_ _
    have R1 := Lib.hid (B1.out.drew.row #[.int .i64 (spN F), .int .i64 (spT F), .int .i64 (spS F)])
    have R3 := Lib.hid (below_setRow (GA.out.trans (Drew.grew ⟨1, rfl⟩ : Grew _ wa.drew)) (show w.heap.size ≤ w.heap.size + 1 by omega) #[.int .i64 (spN F), .int .i64 (spT F), .int .i64 (spS F)])
    clear hHeld
    simp only [onlyN]
    go_wp2
    refine bodyPost_ret (results_ct rfl _ _ _ _ _ rfl rfl (loadVar_spec _ _ _ rfl R1.out)) rfl ?_
    exact ⟨by rw [← HOK.out]; rfl, R3.out⟩
end Go.Proofs.YtbjoohafgkodcaaGreat
