/- rescriptref04: Bytes: contract. -/
import Derived.Test.YtgoaijpckckdnaaInr
namespace Go.Proofs.Ytgoaijpckckdnaa
open Go Go.RowKit Go.Shelf
attribute [local go_sem] Oper.semAt_some
variable {K : Value → Prop}

set_option maxRecDepth 10000 in
set_option maxHeartbeats 4000000 in
theorem rbytes_any (l : List UInt8) (p at_ : Nat) (n : Int) (hn0 : -9223372036854775808 ≤ n) (hn : n ≤ 9223372036854775807) (hl : l.length ≤ 1000000000) (w : World) (h : InR K w p l at_) : Calls Try.prog 67 #[.pointer (some ⟨p, 0, none⟩), .int .i64 n] w fun e w' => ∃ v, e = .returned (.tuple #[v, outF (bytesR l at_ n).2.1 at_]) ∧ OwnB w' w.heap.size v (bytesR l at_ n).1 ∧ InR K w' p l (bytesR l at_ n).2.2 ∧ Fr (· = p) w w' := by
  have hbd := vget_bd (l.drop at_)
  rw [List.length_drop] at hbd
  have hp := h.lt
  obtain ⟨v, hpw, hvw, hat, hkk⟩ := id h
  have HKK := Lib.hid hkk
  clear hkk
  obtain ⟨a, c, rfl, l1, l2, -⟩ := hvw.open
  unfold maxLen at l2
  have h0 := h.grew (grew_alloc w (.cells #[.int .i64 0, .int .i64 0] 27))
  have hp0 := hpw.grew (grew_alloc w (.cells #[.int .i64 0, .int .i64 0] 27))
  have hv := hvw.grew (grew_alloc w (.cells #[.int .i64 0, .int .i64 0] 27))
  have hb0 := Blk.new w 27 #[.int .i64 0, .int .i64 0]
  have K := fun v w hb => rget_any (l.drop at_) v w hb
  obtain ⟨R, hTR⟩ : ∃ R, bytesR l at_ n = R := ⟨_, rfl⟩
  rw [hTR]
  unfold bytesR at hTR
  obtain ⟨⟨num, k, e⟩, hR⟩ : ∃ R, vget (l.drop at_) = R := ⟨_, rfl⟩
  simp only [hR] at hbd K hTR
  obtain ⟨hb1, hb2, hb3, hb4, hb5⟩ := hbd
  have KG := Lib.hid K
  clear hR K hb5 hb4
  obtain ⟨d0, d1, -, -⟩ := cells_of hp0
  obtain ⟨a', c', hrun, hbs⟩ := slc_from hv at_ hat
  have HBS := Lib.hid hbs
  have n1 : w.heap.size ≠ p := by omega
  have n2 : p ≠ w.heap.size := by omega
  clear hbs
  by_cases he : e = 0
  case neg =>
    rw [if_pos he] at hTR
    have HT := Lib.hid hTR
    have hne : ((e : Int) != 0) = true := by simp; omega
    clear hTR he
    go_enter Try.func67, Try.ntmps67
    go_wp2
    go_quiet ((go_at_call 112; exact quiet_eq (KG.out _ _ (HBS.out _ (hv.drew _)))))
    clear d0 d1 hrun
    go_wp2_with fail
    refine (fault_any l p at_ e _ (h0.grew (Drew.grew ⟨nq, rfl⟩))).mono ?_
    rintro e3 w3 ⟨rfl, g3⟩
    have g03 := Grew.trans (Drew.grew ⟨nq, rfl⟩) g3
    have hb3' := hb0.grew g03
    have hp3 := hp0.grew g03
    obtain ⟨x0, x1, x2, x3⟩ := cells_of hb3'
    clear h0 hb0 hv hp0
    go_wp2
    have hf3 : Fr (· = p) w w3 := Fr.of_grew (Grew.trans (grew_alloc _ _) g03)
    refine bodyPost_ret (results_tc rfl _ _ ⟨w.heap.size, 0, none⟩ _ _ rfl rfl (loadVar_fault _ _ _ rfl ((hb3'.set 0 _).set 1 _))) rfl ?_
    rw [← HT.out]
    have eF := (hf3.set w.heap.size 0 (.int .i64 e) (fun h => absurd h (by omega))).set w.heap.size 1 (.int .i64 (fltAt e at_)) (fun h => absurd h (by omega))
    exact ⟨_, rfl, ownB_nil _ _, ⟨_, (hp3.other ⟨w.heap.size, 0, none⟩ (.int .i64 e) n2).other ⟨w.heap.size, 1, none⟩ (.int .i64 (fltAt e at_)) n2, h.bs eF hvw, hat, HKK.out⟩, eF⟩
  subst he
  rw [if_neg (by simp)] at hTR
  by_cases hm : n < 0 ∨ n < (num : Int)
  · rw [if_pos hm] at hTR
    have HT := Lib.hid hTR
    clear hTR
    have hmm : n < 0 ∨ (0 ≤ n ∧ n < (num : Int)) := by omega
    clear hm
    rcases hmm with hm | ⟨hm0, hm⟩
    all_goals
      go_enter Try.func67, Try.ntmps67
      go_wp2
      go_quiet ((go_at_call 112; exact quiet_eq (KG.out _ _ (HBS.out _ (hv.drew _)))))
      clear d0 d1 hrun
      go_wp2_with fail
      refine (fault_any l p at_ 2 _ (h0.grew (Drew.grew ⟨nq, rfl⟩))).mono ?_
      rintro e3 w3 ⟨rfl, g3⟩
      have g03 := Grew.trans (Drew.grew ⟨nq, rfl⟩) g3
      have hb3' := hb0.grew g03
      have hp3 := hp0.grew g03
      obtain ⟨x0, x1, x2, x3⟩ := cells_of hb3'
      clear h0 hb0 hv hp0
      go_wp2
      have hf3 : Fr (· = p) w w3 := Fr.of_grew (Grew.trans (grew_alloc _ _) g03)
      refine bodyPost_ret (results_tc rfl _ _ ⟨w.heap.size, 0, none⟩ _ _ rfl rfl (loadVar_fault _ _ _ rfl ((hb3'.set 0 _).set 1 _))) rfl ?_
      rw [← HT.out]
      have eF := (hf3.set w.heap.size 0 (.int .i64 2) (fun h => absurd h (by omega))).set w.heap.size 1 (.int .i64 (fltAt 2 at_)) (fun h => absurd h (by omega))
      exact ⟨_, rfl, ownB_nil _ _, ⟨_, (hp3.other ⟨w.heap.size, 0, none⟩ (.int .i64 2) n2).other ⟨w.heap.size, 1, none⟩ (.int .i64 (fltAt 2 at_)) n2, h.bs eF hvw, hat, HKK.out⟩, eF⟩
  rw [if_neg hm] at hTR
  have hm0 : 0 ≤ n := by omega
  have hm1 : (num : Int) ≤ n := by omega
  clear hm
  unfold cutR at hTR
  by_cases hs : l.length - at_ < k + num
  · rw [if_pos hs] at hTR
    have HT := Lib.hid hTR
    have hs' : (l.length : Int) - (at_ : Int) - (k : Int) < (num : Int) := by omega
    have hk0 : 0 ≤ (l.length : Int) - (at_ : Int) - (k : Int) := by omega
    clear hTR hs
    go_enter Try.func67, Try.ntmps67
    go_wp2
    go_quiet ((go_at_call 112; exact quiet_eq (KG.out _ _ (HBS.out _ (hv.drew _)))))
    rename Nat => nq1
    go_wp2
    go_quiet (fail)
    clear d0 d1 hrun
    go_wp2_with fail
    refine (fault_any l p at_ 4 _ (h0.grew (Drew.grew ⟨nq1 + nq, rfl⟩))).mono ?_
    rintro e3 w3 ⟨rfl, g3⟩
    have g03 := Grew.trans (Drew.grew ⟨nq1 + nq, rfl⟩) g3
    have hb3' := hb0.grew g03
    have hp3 := hp0.grew g03
    obtain ⟨x0, x1, x2, x3⟩ := cells_of hb3'
    clear h0 hb0 hv hp0
    go_wp2
    have hf3 : Fr (· = p) w w3 := Fr.of_grew (Grew.trans (grew_alloc _ _) g03)
    refine bodyPost_ret (results_tc rfl _ _ ⟨w.heap.size, 0, none⟩ _ _ rfl rfl (loadVar_fault _ _ _ rfl ((hb3'.set 0 _).set 1 _))) rfl ?_
    rw [← HT.out]
    have eF := (hf3.set w.heap.size 0 (.int .i64 4) (fun h => absurd h (by omega))).set w.heap.size 1 (.int .i64 (fltAt 4 at_)) (fun h => absurd h (by omega))
    exact ⟨_, rfl, ownB_nil _ _, ⟨_, (hp3.other ⟨w.heap.size, 0, none⟩ (.int .i64 4) n2).other ⟨w.heap.size, 1, none⟩ (.int .i64 (fltAt 4 at_)) n2, h.bs eF hvw, hat, HKK.out⟩, eF⟩
  · rw [if_neg hs] at hTR
    have hs' : (num : Int) ≤ (l.length : Int) - (at_ : Int) - (k : Int) := by omega
    have hd : decide ((l.length : Int) - (at_ : Int) - (k : Int) < (num : Int)) = false := by simp; omega
    have hk0 : 0 ≤ (l.length : Int) - (at_ : Int) - (k : Int) := by omega
    have kt := fun w (h : InR K w p l (at_ + k)) => rtake_any l p (at_ + k) num (by omega) (by omega) hl w h
    have ht : takeR l (at_ + k) num = ((l.drop (at_ + k)).take num, 0, at_ + (k + num)) := by
      unfold takeR cutR
      rw [if_neg (by omega), Int.toNat_natCast, if_neg (by omega)]
      simp; omega
    rw [ht] at kt
    have HT := Lib.hid hTR
    have KT := Lib.hid kt
    clear hTR ht kt
    go_enter Try.func67, Try.ntmps67
    go_wp2
    go_quiet ((go_at_call 112; exact quiet_eq (KG.out _ _ (HBS.out _ (hv.drew _)))))
    rename Nat => nq1
    go_wp2
    go_quiet (fail)
    clear d0 d1 hrun
    have hb3' := hb0.drewN (nq1 + nq)
    have hp3 := hp0.drewN (nq1 + nq)
    obtain ⟨x0, x1, x2, x3⟩ := cells_of hp3
    have eF1 := (Fr.of_grew (S := fun x => x = p) (Grew.trans (grew_alloc w (.cells #[.int .i64 0, .int .i64 0] 27)) (Drew.grew ⟨nq1 + nq, rfl⟩))).set _ 1 (.int .i64 (at_ + k)) (fun _ => rfl)
    have hI1 : InR K (((w.alloc (.cells #[.int .i64 0, .int .i64 0] 27)).drewN (nq1 + nq)).setCell ⟨p, 1, none⟩ (.int .i64 (at_ + k))) p l (at_ + k) :=
      ⟨_, by push_cast; exact hp3.set 1 _, h.bs eF1 hvw, by omega, HKK.out⟩
    go_wp2_with fail
    refine (KT.out _ hI1).mono ?_
    rintro e5 w5 ⟨v5, rfl, ho, hi5, hf5⟩
    rw [show outF 0 (at_ + k) = faultV 0 0 from rfl]
    have hb5 := (hb3'.other ⟨p, 1, none⟩ (.int .i64 (at_ + k)) n1).fr hf5 n1
    clear x0 x1 x2 x3 h0 hb0 hv hp0 hp3 hI1
    obtain ⟨x0, x1, x2, x3⟩ := cells_of hb5
    have n3 : w.heap.size < w5.heap.size := hb5.lt
    go_wp2
    have hF := Fr.trans eF1 hf5
    have eB := ((hb5.set 0 (.int .i64 0)).set 1 (.int .i64 0)).alloc (.cells #[.int .i64 0, .int .i64 0] 27)
    refine bodyPost_ret (results_tc rfl _ _ ⟨w.heap.size, 0, none⟩ _ _ rfl rfl (loadVar_fault _ _ _ rfl eB)) rfl ?_
    rw [← HT.out]
    have eF := ((hF.set w.heap.size 0 (.int .i64 0) (fun h => absurd h (by omega))).set w.heap.size 1 (.int .i64 0) (fun h => absurd h (by omega))).alloc (.cells #[.int .i64 0, .int .i64 0] 27)
    refine ⟨_, rfl, ?_, (hi5.cell hb5 (noByte_fault _ _) n2 (fr_set2 _ _ _ _)).grew (grew_alloc _ _), eF⟩
    have hb : w.heap.size + 1 ≤ (((w.alloc (.cells #[.int .i64 0, .int .i64 0] 27)).drewN (nq1 + nq)).setCell ⟨p, 1, none⟩ (.int .i64 (at_ + k))).heap.size := by simp
    have hge := fun g e => (own_lt ho g e).1
    have e1 : v5.ownBlock ≠ some w.heap.size := fun e => by have := hge _ e; omega
    exact own_grew (own_set (own_set (own_mono ho (by omega)) _ _ e1) _ _ e1) (grew_alloc _ _)
end Go.Proofs.Ytgoaijpckckdnaa
