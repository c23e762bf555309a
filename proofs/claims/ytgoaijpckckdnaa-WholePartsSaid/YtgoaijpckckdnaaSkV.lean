/- skip.Put: contract. -/
import Derived.Test.YtgoaijpckckdnaaSkU
namespace Go.Proofs.Ytgoaijpckckdnaa
open Go Go.RowKit Go.Shelf
attribute [local go_sem] Oper.semAt_some

theorem putF_len {x : Fld} (hx : x.ok) : (putF x).1.length ≤ 8212 := by
  by_cases h : (putF x).2 = 0
  · obtain ⟨h1, h2, h3⟩ := putF_ok h
    obtain ⟨t1, t2, t3, t4⟩ := tmake_ok h1
    rw [h3]
    have := vput_le10 (tmake (fNum x) (fWire x)).1 t4
    have hv : (valB x).length ≤ 8202 := by
      by_cases h5 : fWire x = 2
      · exact valB_len hx (h2 h5)
      · obtain ⟨-, -, -, hn⟩ := hx
        unfold valB
        rcases wireB_or t3 with e | e | e | e
        · rw [if_pos e]; have := vput_le10 (fN x) hn; omega
        · rw [if_neg (by omega), if_pos e, fixB_length]; omega
        · exact absurd e h5
        · rw [if_neg (by omega), if_neg (by omega), if_pos e, fixB_length]; omega
    rw [List.length_append]; omega
  · unfold putF at h ⊢
    by_cases h1 : (tmake (fNum x) (fWire x)).2 ≠ 0
    · rw [if_pos h1]; simp
    rw [if_neg h1] at h ⊢
    by_cases h2 : fWire x = 2 ∧ 8192 < (fB x).length
    · rw [if_pos h2]; simp
    · rw [if_neg h2] at h; exact absurd rfl h
set_option maxRecDepth 100000 in
set_option maxHeartbeats 4000000 in
theorem skPut_any (A : List FFV) (v : Value) (w : World) (h : FlR w v A) (hok : ∀ p ∈ A, p.1.ok ∧ (fB p.1).length ≤ 100000000) (hA : A.length ≤ 1000000) :
    Calls Try.prog 23 #[v] w fun e w' => ∃ v', e = .returned (.tuple #[v', faultV (putsF 0 (A.map (·.1))).2.1 (putsF 0 (A.map (·.1))).2.2]) ∧ OwnB w' w.heap.size v' (putsF 0 (A.map (·.1))).1 ∧ Grew w w' := by
  obtain ⟨a, c, rfl, h1, h2, -, h4⟩ := h.1.open
  unfold maxLen at h2
  have ga := grew_alloc w (.cells #[.int .i64 0, .int .i64 0] 27)
  have k0 := Blk.new w 27 #[.int .i64 0, .int .i64 0]
  have HC := Lib.hid h
  have H4 := Lib.hid h4
  have HOK := Lib.hid hok
  clear h h4 hok
  go_enter Try.func23, Try.ntmps23
  go_wp2
  go_loopw [4, 11] (fun vo i wr => ∃ (k : Nat) (pre : List UInt8), k ≤ A.length ∧ i = .int .i64 k ∧ pre.length ≤ k * 8212 ∧ OwnB wr w.heap.size vo pre ∧ Blk wr w.heap.size 27 #[.int .i64 0, .int .i64 0] ∧ Grew w wr ∧ RowKit.Hid (putsF 0 (A.map (·.1)) = joinB pre (putsF k ((A.map (·.1)).drop k)))) (fun _ i _ => A.length - (intOf i).toNat)
  case atStart => exact ⟨0, [], Nat.zero_le _, rfl, Nat.zero_le _, ownB_nil _ _, k0, ga, Lib.hid (by rw [List.drop_zero]; exact (joinB_nil 0 _).symm)⟩
  case round =>
    obtain ⟨k, pre, hk, rfl, hpl, ho, hF, hG, hJ⟩ := hrel
    obtain ⟨a9, n9, c9, rfl, hn9⟩ := bs_shape (Sl.of_own ho)
    have HO := Lib.hid ho
    have HPL := Lib.hid hpl
    clear ho hpl
    by_cases hlt : k < A.length
    · obtain ⟨b, o, rfl, -⟩ := H4.out (by omega)
      obtain ⟨x0, x1, x2, x3, x4, x5⟩ := fl_cells (HC.out.grew hG) k hlt
      have hokk := HOK.out _ (List.getElem_mem hlt)
      have hdr : (A.map (·.1)).drop k = A[k].1 :: (A.map (·.1)).drop (k + 1) := by
        rw [List.drop_eq_getElem_cons (by rw [List.length_map]; exact hlt), List.getElem_map]
      have hJ2 := hJ.out
      rw [hdr] at hJ2
      obtain ⟨⟨X, xv⟩, hr⟩ : ∃ r, r = A[k] := ⟨_, rfl⟩
      rw [← hr] at x0 x1 x2 x3 x4 x5 hokk hJ2
      simp only at x0 x1 x2 x3 x4 x5 hokk hJ2
      obtain ⟨xa, xn, xc, rfl, hxn⟩ := bs_shape x5
      have gb := grew_alloc wr (.cells #[.int .i64 X.1, .int .u8 (X.2.1 : Nat), .int .u64 (X.2.2.1 : Nat), .slice xa xn xc, .int .i64 X.2.2.2.2] 39)
      have KP := Lib.hid (skput_any X _ _ hokk.1 (x5.grew gb) hokk.2)
      have HL := Lib.hid (putF_len hokk.1)
      have z1 : (k : Int) < (A.length : Int) := by omega
      have z0 : (0 : Int) ≤ (k : Int) := by omega
      have hF2 := hF.grew gb
      have hwz := hG.size
      clear hdr hr x5 hokk hJ hF
      go_wp2_with fail
      refine KP.out.mono ?_
      obtain ⟨R, hR⟩ : ∃ R, R = putF X := ⟨_, rfl⟩
      have HR := Lib.hid hR
      rw [← hR]
      rintro e w2 ⟨v2, rfl, ho2, g2⟩
      obtain ⟨b9, m9, d9, rfl, hm9⟩ := bs_shape (Sl.of_own ho2)
      have hF3 := hF2.grew g2
      have G2 := (hG.trans gb).trans g2
      have HO2 := Lib.hid ho2
      have HLR := Lib.hid (show R.1.length ≤ 8212 by rw [HR.out]; exact HL.out)
      clear hR ho2 x0 x1 x2 x3 x4 hF2
      by_cases he : R.2 ≠ 0
      · have hne : ((R.2 : Int) != 0) = true := by simp; omega
        rw [joinB_bad _ (by rw [← HR.out]; exact he), ← HR.out] at hJ2
        have HJ2 := Lib.hid hJ2
        obtain ⟨q0, q1, q2, q3⟩ := cells_of hF3
        clear he hJ2
        go_wp2
        have r1 := (hF3.set 0 (.int .i64 (R.2 : Nat))).set 1 (.int .i64 k)
        refine bodyPost_ret (results_tc rfl _ _ ⟨w.heap.size, 0, none⟩ _ _ rfl rfl (loadVar_fault _ _ _ rfl r1)) rfl ?_
        rw [HJ2.out]
        exact ⟨_, rfl, ownB_nil _ _, grew_set (grew_set G2 (Nat.le_refl _) _) (Nat.le_refl _) _⟩
      · have hne : ((R.2 : Int) != 0) = false := by simp; omega
        rw [joinB_step _ (by rw [← HR.out]; omega), ← HR.out] at hJ2
        have HJ2 := Lib.hid hJ2
        have hO3 := own_grew (own_grew HO.out gb) g2
        have HO3 := Lib.hid hO3
        clear he hJ2 hO3
        go_wp2_with (at_builtin; refine wpList_push2 rfl _ _ rfl w.heap.size _ pre rfl HO3.out _ rfl R.1 (Sl.of_own HO2.out) (by have := HPL.out; have := HLR.out; omega) G2.size ?_; intro v' w3 hown3 hB3 hgb _)
        refine ⟨⟨k + 1, pre ++ R.1, by omega, by go_num, by have := HPL.out; have := HLR.out; rw [List.length_append]; omega, hown3, hF3.kept hgb (blk_ne_row hF3 HO3.out (by decide)), Below.trans G2 hB3, HJ2⟩, ?_⟩
        simp [intOf]; omega
    · obtain rfl : k = A.length := by omega
      have hJ2 := hJ.out
      rw [List.drop_of_length_le (by rw [List.length_map]; exact Nat.le_refl _), joinB_end] at hJ2
      have HJ2 := Lib.hid hJ2
      obtain ⟨q0, q1, q2, q3⟩ := cells_of hF
      clear hJ hJ2
      go_wp2
      have r1 := (hF.set 0 (.int .i64 0)).set 1 (.int .i64 0)
      have ho9 := own_set (own_set HO.out ⟨w.heap.size, 0, none⟩ (.int .i64 0) (fun e => blk_ne_row hF HO.out (by decide) e.symm)) ⟨w.heap.size, 1, none⟩ (.int .i64 0) (fun e => blk_ne_row hF HO.out (by decide) e.symm)
      refine bodyPost_ret (results_tc rfl _ _ ⟨w.heap.size, 0, none⟩ _ _ rfl rfl (loadVar_fault _ _ _ rfl r1)) rfl ?_
      rw [HJ2.out]
      exact ⟨_, rfl, ho9, grew_set (grew_set hG (Nat.le_refl _) _) (Nat.le_refl _) _⟩
end Go.Proofs.Ytgoaijpckckdnaa
