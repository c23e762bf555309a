/- rescriptref04: contracts. -/
import Derived.Test.YtgoaijpckckdnaaInt
import Derived.RegionTactic
import Derived.StillTailTactics
namespace Go.Proofs.Ytgoaijpckckdnaa
open Go Go.RowKit Go.Shelf
attribute [local go_sem] Oper.semAt_some
variable {K : Value → Prop}

abbrev InR (K : Value → Prop) (w : World) (p : Nat) (l : List UInt8) (a : Nat) : Prop := InS 36 K w p l a

theorem fault_any (l : List UInt8) (p at_ e : Nat) (w : World) (h : InR K w p l at_) : Calls Try.prog 113 #[.pointer (some ⟨p, 0, none⟩), .int .i64 e] w fun e' w' => e' = .returned (outF e at_) ∧ Grew w w' := by
  have hlt := h.lt
  obtain ⟨v, hb0, hv, hat, -⟩ := id h
  have hp := hb0.grew (grew_alloc w (.cells #[.int .i64 0, .int .i64 0] 27))
  have c1 := hp.cell 1
  simp only [List.getElem?_toArray, List.getElem?_cons_zero, List.getElem?_cons_succ] at c1
  by_cases he : e = 0
  · subst he
    rw [show outF 0 at_ = faultV 0 0 from rfl]
    go_enter Try.func113, Try.ntmps113
    go_wp2
    refine bodyPost_ret (results_c rfl _ _ ⟨w.heap.size, 0, none⟩ _ rfl (loadVar_fault _ _ _ rfl (Blk.new _ _ _))) rfl ⟨rfl, grew_alloc _ _⟩
  · rw [show outF e at_ = faultV e at_ by rw [outF, fltAt, if_neg he]]
    have hne : ((e : Int) == 0) = false := by simp; omega
    clear he
    go_enter Try.func113, Try.ntmps113
    go_wp2
    refine bodyPost_ret (results_c rfl _ _ ⟨w.heap.size, 0, none⟩ _ rfl (loadVar_fault _ _ _ rfl (Blk.new _ _ _))) rfl ⟨rfl, grew_alloc _ _⟩

set_option maxRecDepth 10000 in
set_option maxHeartbeats 2000000 in
theorem rvarint_any (l : List UInt8) (p at_ : Nat) (w : World) (h : InR K w p l at_) : Calls Try.prog 65 #[.pointer (some ⟨p, 0, none⟩)] w fun e w' => e = .returned (.tuple #[.int .u64 (vget (l.drop at_)).1, outF (vget (l.drop at_)).2.2 at_]) ∧ InR K w' p l (at_ + (vget (l.drop at_)).2.1) ∧ Fr (· = p) w w' := by
  have hbd := vget_bd (l.drop at_)
  rw [List.length_drop] at hbd
  have hp := h.lt
  obtain ⟨v, hpw, hvw, hat, hkk⟩ := id h
  have HKK := Lib.hid hkk
  clear hkk
  obtain ⟨a, c, rfl, l1, l2, -⟩ := hvw.open
  unfold maxLen at l2
  have h0 := h.grew (grew_alloc w (.cells #[.int .i64 0, .int .i64 0] 27))
  have hp0 := hpw.grew (grew_alloc w (.cells #[.int .i64 0, .int .i64 0] 27))
  have hv := hvw.grew (grew_alloc w (.cells #[.int .i64 0, .int .i64 0] 27))
  have hb0 := Blk.new w 27 #[.int .i64 0, .int .i64 0]
  have K := fun v w hb => rget_any (l.drop at_) v w hb
  obtain ⟨⟨n, k, e⟩, hR⟩ : ∃ R, vget (l.drop at_) = R := ⟨_, rfl⟩
  simp only [hR] at hbd K ⊢
  obtain ⟨hb1, hb2, hb3, hb4, hb5⟩ := hbd
  have KG := Lib.hid K
  clear hR K hb5 hb4
  obtain ⟨d0, d1, -, -⟩ := cells_of hp0
  obtain ⟨a', c', hrun, hbs⟩ := slc_from hv at_ hat
  have HBS := Lib.hid hbs
  clear hbs
  go_enter Try.func65, Try.ntmps65
  go_wp2
  go_quiet ((go_at_call 112; exact quiet_eq (KG.out _ _ (HBS.out _ (hv.drew _)))))
  clear d0 d1 hrun
  go_wp2_with fail
  refine (fault_any l p at_ e _ (h0.grew (Drew.grew ⟨nq, rfl⟩))).mono ?_
  rintro e3 w3 ⟨rfl, g3⟩
  have g03 := Grew.trans (Drew.grew ⟨nq, rfl⟩) g3
  have hb3' := hb0.grew g03
  have hb7 := Blk.new w3 27 #[.int .i64 e, .int .i64 (fltAt e at_)]
  have hp3 := hp0.grew g03
  obtain ⟨d0, d1, d2, d3⟩ := cells_of hp3
  obtain ⟨x0, x1, x2, x3⟩ := cells_of hb3'
  obtain ⟨y0, y1, -, -⟩ := cells_of hb7
  have n1 : w.heap.size ≠ p := by omega
  have n2 : p ≠ w.heap.size := by omega
  have n3 : p < w3.heap.size := by have := g03.size; simp at this; omega
  have n4 : w.heap.size < w3.heap.size := by have := g03.size; simp at this; omega
  clear h0 hb0 hv hp0
  go_wp2
  go_region
  go_wp2
  have hf3 : Fr (· = p) w w3 := Fr.of_grew (Grew.trans (grew_alloc _ _) g03)
  have eB := ((((hb3'.other ⟨p, 1, none⟩ (.int .i64 (at_ + k)) n1).set 0 (.int .i64 e)).set 1 (.int .i64 (fltAt e at_))).alloc (.cells #[.int .i64 e, .int .i64 (fltAt e at_)] 27)).drew
  refine bodyPost_ret (results_tc rfl _ _ ⟨w.heap.size, 0, none⟩ _ _ rfl rfl (loadVar_fault _ _ _ rfl eB)) rfl ?_
  have eF := ((((hf3.set _ 1 (.int .i64 (at_ + k)) (fun _ => rfl)).set w.heap.size 0 (.int .i64 e) (fun h => absurd h (by omega))).set w.heap.size 1 (.int .i64 (fltAt e at_)) (fun h => absurd h (by omega))).alloc (.cells #[.int .i64 e, .int .i64 (fltAt e at_)] 27)).drew
  have ep := (((((hp3.set 1 (.int .i64 (at_ + k))).other ⟨w.heap.size, 0, none⟩ (.int .i64 e) n2).other ⟨w.heap.size, 1, none⟩ (.int .i64 (fltAt e at_)) n2).alloc (.cells #[.int .i64 e, .int .i64 (fltAt e at_)] 27)).drew)
  refine ⟨rfl, ⟨_, ?_, h.bs eF hvw, by omega, HKK.out⟩, eF⟩
  push_cast
  exact ep

set_option maxRecDepth 10000 in
set_option maxHeartbeats 4000000 in
theorem rtag_any (l : List UInt8) (p at_ : Nat) (w : World) (h : InR K w p l at_) : Calls Try.prog 64 #[.pointer (some ⟨p, 0, none⟩)] w fun e w' => e = .returned (.tuple #[.int .i64 (tagR l at_).1, .int .u8 (tagR l at_).2.1, outF (tagR l at_).2.2.1 at_]) ∧ InR K w' p l (tagR l at_).2.2.2 ∧ Fr (· = p) w w' := by
  have hbd := vget_bd (l.drop at_)
  rw [List.length_drop] at hbd
  have hp := h.lt
  obtain ⟨v, hpw, hvw, hat, hkk⟩ := id h
  have HKK := Lib.hid hkk
  clear hkk
  obtain ⟨a, c, rfl, l1, l2, -⟩ := hvw.open
  unfold maxLen at l2
  have h0 := h.grew (grew_alloc w (.cells #[.int .i64 0, .int .i64 0] 27))
  have hp0 := hpw.grew (grew_alloc w (.cells #[.int .i64 0, .int .i64 0] 27))
  have hv := hvw.grew (grew_alloc w (.cells #[.int .i64 0, .int .i64 0] 27))
  have hb0 := Blk.new w 27 #[.int .i64 0, .int .i64 0]
  have K := fun v w hb => rget_any (l.drop at_) v w hb
  obtain ⟨R, hTR⟩ : ∃ R, tagR l at_ = R := ⟨_, rfl⟩
  rw [hTR]
  unfold tagR at hTR
  obtain ⟨⟨n, k, e⟩, hR⟩ : ∃ R, vget (l.drop at_) = R := ⟨_, rfl⟩
  simp only [hR] at hbd K hTR
  obtain ⟨hb1, hb2, hb3, hb4, hb5⟩ := hbd
  have KG := Lib.hid K
  clear hR K hb5 hb4
  obtain ⟨d0, d1, -, -⟩ := cells_of hp0
  obtain ⟨a', c', hrun, hbs⟩ := slc_from hv at_ hat
  have HBS := Lib.hid hbs
  clear hbs
  by_cases he : e = 0
  case neg =>
    rw [if_pos he] at hTR
    have HT := Lib.hid hTR
    have hne : ((e : Int) != 0) = true := by simp; omega
    clear hTR he
    go_enter Try.func64, Try.ntmps64
    go_wp2
    go_quiet ((go_at_call 112; exact quiet_eq (KG.out _ _ (HBS.out _ (hv.drew _)))))
    clear d0 d1 hrun
    go_wp2_with fail
    refine (fault_any l p at_ e _ (h0.grew (Drew.grew ⟨nq, rfl⟩))).mono ?_
    rintro e3 w3 ⟨rfl, g3⟩
    have g03 := Grew.trans (Drew.grew ⟨nq, rfl⟩) g3
    have hb3' := hb0.grew g03
    have hp3 := hp0.grew g03
    obtain ⟨x0, x1, x2, x3⟩ := cells_of hb3'
    have n2 : p ≠ w.heap.size := by omega
    clear h0 hb0 hv hp0
    go_wp2
    have hf3 : Fr (· = p) w w3 := Fr.of_grew (Grew.trans (grew_alloc _ _) g03)
    refine bodyPost_ret (results_ttc rfl _ _ ⟨w.heap.size, 0, none⟩ _ _ _ rfl rfl rfl (loadVar_fault _ _ _ rfl ((hb3'.set 0 _).set 1 _))) rfl ?_
    rw [← HT.out]
    have eF := (hf3.set w.heap.size 0 (.int .i64 e) (fun h => absurd h (by omega))).set w.heap.size 1 (.int .i64 (fltAt e at_)) (fun h => absurd h (by omega))
    exact ⟨rfl, ⟨_, (hp3.other ⟨w.heap.size, 0, none⟩ (.int .i64 e) n2).other ⟨w.heap.size, 1, none⟩ (.int .i64 (fltAt e at_)) n2, h.bs eF hvw, hat, HKK.out⟩, eF⟩
  subst he
  rw [if_neg (by simp)] at hTR
  have KS := fun w => rsplit_any n hb1 w
  have hse := tsplit_err n
  obtain ⟨⟨num, wire, g⟩, hS⟩ : ∃ S, tsplit n = S := ⟨_, rfl⟩
  simp only [hS] at KS hTR hse
  have KSH := Lib.hid KS
  clear KS hS
  by_cases hg : g = 0
  · subst hg
    rw [if_neg (by simp)] at hTR
    have HT := Lib.hid hTR
    clear hTR hse
    go_enter Try.func64, Try.ntmps64
    go_wp2
    go_quiet ((go_at_call 112; exact quiet_eq (KG.out _ _ (HBS.out _ (hv.drew _)))))
    clear d0 d1 hrun
    go_wp2_with fail
    refine (KSH.out _).mono ?_
    rintro e2 w2 ⟨rfl, rfl⟩
    go_wp2_with fail
    refine (fault_any l p at_ 0 _ (h0.grew (Drew.grew ⟨nq, rfl⟩))).mono ?_
    rintro e3 w3 ⟨rfl, g3⟩
    rw [show outF 0 at_ = faultV 0 0 from rfl]
    have g03 := Grew.trans (Drew.grew ⟨nq, rfl⟩) g3
    have hb3' := hb0.grew g03
    have hb7 := Blk.new w3 27 #[.int .i64 0, .int .i64 0]
    have hp3 := hp0.grew g03
    obtain ⟨d0, d1, d2, d3⟩ := cells_of hp3
    obtain ⟨x0, x1, x2, x3⟩ := cells_of hb3'
    obtain ⟨y0, y1, -, -⟩ := cells_of hb7
    have n1 : w.heap.size ≠ p := by omega
    have n2 : p ≠ w.heap.size := by omega
    have n3 : p < w3.heap.size := by have := g03.size; simp at this; omega
    have n4 : w.heap.size < w3.heap.size := by have := g03.size; simp at this; omega
    clear h0 hb0 hv hp0
    go_wp2
    go_region
    go_wp2
    have hf3 : Fr (· = p) w w3 := Fr.of_grew (Grew.trans (grew_alloc _ _) g03)
    have eB := ((((hb3'.other ⟨p, 1, none⟩ (.int .i64 (at_ + k)) n1).set 0 (.int .i64 0)).set 1 (.int .i64 0)).alloc (.cells #[.int .i64 0, .int .i64 0] 27)).drew
    refine bodyPost_ret (results_ttc rfl _ _ ⟨w.heap.size, 0, none⟩ _ _ _ rfl rfl rfl (loadVar_fault _ _ _ rfl eB)) rfl ?_
    rw [← HT.out]
    have eF := ((((hf3.set _ 1 (.int .i64 (at_ + k)) (fun _ => rfl)).set w.heap.size 0 (.int .i64 0) (fun h => absurd h (by omega))).set w.heap.size 1 (.int .i64 0) (fun h => absurd h (by omega))).alloc (.cells #[.int .i64 0, .int .i64 0] 27)).drew
    have ep := (((((hp3.set 1 (.int .i64 (at_ + k))).other ⟨w.heap.size, 0, none⟩ (.int .i64 0) n2).other ⟨w.heap.size, 1, none⟩ (.int .i64 0) n2).alloc (.cells #[.int .i64 0, .int .i64 0] 27)).drew)
    refine ⟨rfl, ⟨_, ?_, h.bs eF hvw, by simp; omega, HKK.out⟩, eF⟩
    push_cast
    exact ep
  · rw [if_pos hg] at hTR
    obtain ⟨rfl, rfl⟩ := hse hg
    have HT := Lib.hid hTR
    have hne : ((g : Int) == 0) = false := by simp; omega
    clear hTR hse hg
    go_enter Try.func64, Try.ntmps64
    go_wp2
    go_quiet ((go_at_call 112; exact quiet_eq (KG.out _ _ (HBS.out _ (hv.drew _)))))
    clear d0 d1 hrun
    go_wp2_with fail
    refine (KSH.out _).mono ?_
    rintro e2 w2 ⟨rfl, rfl⟩
    go_wp2_with fail
    refine (fault_any l p at_ g _ (h0.grew (Drew.grew ⟨nq, rfl⟩))).mono ?_
    rintro e3 w3 ⟨rfl, g3⟩
    have g03 := Grew.trans (Drew.grew ⟨nq, rfl⟩) g3
    have hb3' := hb0.grew g03
    have hb7 := Blk.new w3 27 #[.int .i64 g, .int .i64 (fltAt g at_)]
    have hp3 := hp0.grew g03
    obtain ⟨x0, x1, x2, x3⟩ := cells_of hb3'
    obtain ⟨y0, y1, -, -⟩ := cells_of hb7
    have n2 : p ≠ w.heap.size := by omega
    have n4 : w.heap.size < w3.heap.size := by have := g03.size; simp at this; omega
    clear h0 hb0 hv hp0
    go_wp2
    go_region
    go_wp2
    have hf3 : Fr (· = p) w w3 := Fr.of_grew (Grew.trans (grew_alloc _ _) g03)
    have eB := (((hb3'.set 0 (.int .i64 g)).set 1 (.int .i64 (fltAt g at_))).alloc (.cells #[.int .i64 g, .int .i64 (fltAt g at_)] 27)).drew
    refine bodyPost_ret (results_ttc rfl _ _ ⟨w.heap.size, 0, none⟩ _ _ _ rfl rfl rfl (loadVar_fault _ _ _ rfl eB)) rfl ?_
    rw [← HT.out]
    have eF := (((hf3.set w.heap.size 0 (.int .i64 g) (fun h => absurd h (by omega))).set w.heap.size 1 (.int .i64 (fltAt g at_)) (fun h => absurd h (by omega))).alloc (.cells #[.int .i64 g, .int .i64 (fltAt g at_)] 27)).drew
    have ep := ((((hp3.other ⟨w.heap.size, 0, none⟩ (.int .i64 g) n2).other ⟨w.heap.size, 1, none⟩ (.int .i64 (fltAt g at_)) n2).alloc (.cells #[.int .i64 g, .int .i64 (fltAt g at_)] 27)).drew)
    exact ⟨rfl, ⟨_, ep, h.bs eF hvw, hat, HKK.out⟩, eF⟩

set_option maxRecDepth 10000 in
set_option maxHeartbeats 4000000 in
theorem rfixed_any (l : List UInt8) (p at_ k : Nat) (hk : k ≤ 8) (w : World) (h : InR K w p l at_) : Calls Try.prog 66 #[.pointer (some ⟨p, 0, none⟩), .int .i64 k] w fun e w' => e = .returned (.tuple #[.int .u64 (fixR l at_ k).1, outF (fixR l at_ k).2.1 at_]) ∧ InR K w' p l (fixR l at_ k).2.2 ∧ Fr (· = p) w w' := by
  have hp := h.lt
  obtain ⟨v, hpw, hvw, hat, hkk⟩ := id h
  have HKK := Lib.hid hkk
  clear hkk
  obtain ⟨a, c, rfl, l1, l2, -⟩ := hvw.open
  unfold maxLen at l2
  have h0 := h.grew (grew_alloc w (.cells #[.int .i64 0, .int .i64 0] 27))
  have hp0 := hpw.grew (grew_alloc w (.cells #[.int .i64 0, .int .i64 0] 27))
  have hv := hvw.grew (grew_alloc w (.cells #[.int .i64 0, .int .i64 0] 27))
  have hb0 := Blk.new w 27 #[.int .i64 0, .int .i64 0]
  obtain ⟨R, hTR⟩ : ∃ R, fixR l at_ k = R := ⟨_, rfl⟩
  rw [hTR]
  unfold fixR at hTR
  obtain ⟨d0, d1, -, -⟩ := cells_of hp0
  by_cases hs : (l.drop at_).length < k
  · rw [if_pos hs] at hTR
    rw [List.length_drop] at hs
    have HT := Lib.hid hTR
    have hs' : (l.length : Int) - (at_ : Int) < (k : Int) := by omega
    clear hTR
    go_enter Try.func66, Try.ntmps66
    go_wp2
    go_quiet (fail)
    clear d0 d1
    go_wp2_with fail
    refine (fault_any l p at_ 4 _ (h0.grew (Drew.grew ⟨nq, rfl⟩))).mono ?_
    rintro e3 w3 ⟨rfl, g3⟩
    have g03 := Grew.trans (Drew.grew ⟨nq, rfl⟩) g3
    have hb3' := hb0.grew g03
    have hp3 := hp0.grew g03
    obtain ⟨x0, x1, x2, x3⟩ := cells_of hb3'
    have n2 : p ≠ w.heap.size := by omega
    clear h0 hb0 hv hp0
    go_wp2
    have hf3 : Fr (· = p) w w3 := Fr.of_grew (Grew.trans (grew_alloc _ _) g03)
    refine bodyPost_ret (results_tc rfl _ _ ⟨w.heap.size, 0, none⟩ _ _ rfl rfl (loadVar_fault _ _ _ rfl ((hb3'.set 0 _).set 1 _))) rfl ?_
    rw [← HT.out]
    have eF := (hf3.set w.heap.size 0 (.int .i64 4) (fun h => absurd h (by omega))).set w.heap.size 1 (.int .i64 (fltAt 4 at_)) (fun h => absurd h (by omega))
    exact ⟨rfl, ⟨_, (hp3.other ⟨w.heap.size, 0, none⟩ (.int .i64 4) n2).other ⟨w.heap.size, 1, none⟩ (.int .i64 (fltAt 4 at_)) n2, h.bs eF hvw, hat, HKK.out⟩, eF⟩
  · rw [if_neg hs] at hTR
    have hsl : k ≤ (l.drop at_).length := by omega
    have ku := fun v w hb => runfix_any (l.drop at_) k hk hsl v w hb
    have hul := unfix_take_lt (l.drop at_) k hsl
    have hp8 : (256 : Nat) ^ k ≤ 18446744073709551616 := by
      rw [show (18446744073709551616 : Nat) = 256 ^ 8 by decide]; exact Nat.pow_le_pow_right (by decide) hk
    obtain ⟨num, hnum⟩ : ∃ num, unfix ((l.drop at_).take k) = num := ⟨_, rfl⟩
    simp only [hnum] at ku hTR
    rw [List.length_drop] at hsl
    have HT := Lib.hid hTR
    have KU := Lib.hid ku
    have hs' : (k : Int) ≤ (l.length : Int) - (at_ : Int) := by omega
    have hd : decide ((l.length : Int) - (at_ : Int) < (k : Int)) = false := by simp; omega
    obtain ⟨a', c', hrun, hbs⟩ := slc_from hv at_ hat
    have HBS := Lib.hid hbs
    clear hbs hTR ku hnum hul hp8 hs
    go_enter Try.func66, Try.ntmps66
    go_wp2
    go_quiet (fail)
    rename Nat => nq1
    go_wp2
    go_quiet ((go_at_call 115; exact quiet_eq2 (KU.out _ _ (HBS.out _ (hv.drew _)))))
    clear d0 d1 hrun hs' hd
    have hb3' := (hb0.drewN (nq1 + nq))
    have hp3 := (hp0.drewN (nq1 + nq))
    obtain ⟨d0, d1, d2, d3⟩ := cells_of hp3
    obtain ⟨x0, x1, x2, x3⟩ := cells_of hb3'
    have n1 : w.heap.size ≠ p := by omega
    have n2 : p ≠ w.heap.size := by omega
    clear h0 hb0 hv hp0
    go_wp2
    have eB := ((hb3'.other ⟨p, 1, none⟩ (.int .i64 (at_ + k)) n1).set 0 (.int .i64 0)).set 1 (.int .i64 0)
    refine bodyPost_ret (results_tc rfl _ _ ⟨w.heap.size, 0, none⟩ _ _ rfl rfl (loadVar_fault _ _ _ rfl eB)) rfl ?_
    rw [← HT.out]
    have eF := (((Fr.of_grew (S := fun x => x = p) (Grew.trans (grew_alloc w (.cells #[.int .i64 0, .int .i64 0] 27)) (Drew.grew ⟨nq1 + nq, rfl⟩))).set _ 1 (.int .i64 (at_ + k)) (fun _ => rfl)).set w.heap.size 0 (.int .i64 0) (fun h => absurd h (by omega))).set w.heap.size 1 (.int .i64 0) (fun h => absurd h (by omega))
    have ep := (((hp3.set 1 (.int .i64 (at_ + k))).other ⟨w.heap.size, 0, none⟩ (.int .i64 0) n2).other ⟨w.heap.size, 1, none⟩ (.int .i64 0) n2)
    refine ⟨rfl, ⟨_, ?_, h.bs eF hvw, by simp; omega, HKK.out⟩, eF⟩
    push_cast
    exact ep

theorem fr_int {w : World} {p : Nat} (_hp : p < w.heap.size) {w' : World} (hf : Fr (fun x => x = p) (w.alloc (.cells #[.int .i64 0, .int .i64 0] 27)) w') : Fr (fun x => x = p) w w' := Fr.trans (Fr.of_grew (grew_alloc _ _)) hf

set_option maxRecDepth 10000 in
set_option maxHeartbeats 4000000 in
theorem rtake_any (l : List UInt8) (p at_ : Nat) (n : Int) (hn0 : -9223372036854775808 ≤ n) (hn : n ≤ 9223372036854775807) (hl : l.length ≤ 1000000000) (w : World) (h : InR K w p l at_) : Calls Try.prog 116 #[.pointer (some ⟨p, 0, none⟩), .int .i64 n] w fun e w' => ∃ v, e = .returned (.tuple #[v, outF (takeR l at_ n).2.1 at_]) ∧ OwnB w' w.heap.size v (takeR l at_ n).1 ∧ InR K w' p l (takeR l at_ n).2.2 ∧ Fr (· = p) w w' := by
  have hp := h.lt
  obtain ⟨v, hpw, hvw, hat, hkk⟩ := id h
  have HKK := Lib.hid hkk
  clear hkk
  obtain ⟨a, c, rfl, l1, l2, -⟩ := hvw.open
  unfold maxLen at l2
  have h0 := h.grew (grew_alloc w (.cells #[.int .i64 0, .int .i64 0] 27))
  have hp0 := hpw.grew (grew_alloc w (.cells #[.int .i64 0, .int .i64 0] 27))
  have hv := hvw.grew (grew_alloc w (.cells #[.int .i64 0, .int .i64 0] 27))
  have hb0 := Blk.new w 27 #[.int .i64 0, .int .i64 0]
  obtain ⟨R, hTR⟩ : ∃ R, takeR l at_ n = R := ⟨_, rfl⟩
  rw [hTR]
  unfold takeR at hTR
  obtain ⟨d0, d1, -, -⟩ := cells_of hp0
  have n2 : p ≠ w.heap.size := by omega
  have n1 : w.heap.size ≠ p := by omega
  by_cases hneg : n < 0
  · rw [if_pos hneg] at hTR
    have HT := Lib.hid hTR
    clear hTR d0 d1
    go_enter Try.func116, Try.ntmps116
    go_wp2_with fail
    refine (fault_any l p at_ 1 _ h0).mono ?_
    rintro e3 w3 ⟨rfl, g3⟩
    have hb3' := hb0.grew g3
    have hp3 := hp0.grew g3
    obtain ⟨x0, x1, x2, x3⟩ := cells_of hb3'
    clear h0 hb0 hv hp0
    go_wp2
    have hf3 : Fr (· = p) w w3 := Fr.of_grew (Grew.trans (grew_alloc _ _) g3)
    refine bodyPost_ret (results_tc rfl _ _ ⟨w.heap.size, 0, none⟩ _ _ rfl rfl (loadVar_fault _ _ _ rfl ((hb3'.set 0 _).set 1 _))) rfl ?_
    rw [← HT.out]
    have eF := (hf3.set w.heap.size 0 (.int .i64 1) (fun h => absurd h (by omega))).set w.heap.size 1 (.int .i64 (fltAt 1 at_)) (fun h => absurd h (by omega))
    exact ⟨_, rfl, ownB_nil _ _, ⟨_, (hp3.other ⟨w.heap.size, 0, none⟩ (.int .i64 1) n2).other ⟨w.heap.size, 1, none⟩ (.int .i64 (fltAt 1 at_)) n2, h.bs eF hvw, hat, HKK.out⟩, eF⟩
  rw [if_neg hneg] at hTR
  obtain ⟨m, rfl⟩ := Int.eq_ofNat_of_zero_le (by omega : 0 ≤ n)
  rw [Int.toNat_natCast] at hTR
  unfold cutR at hTR
  rw [Nat.zero_add] at hTR
  have hd0 : decide ((m : Int) < 0) = false := by simp
  by_cases hs : l.length - at_ < m
  · rw [if_pos hs] at hTR
    have HT := Lib.hid hTR
    have hs' : (l.length : Int) - (at_ : Int) < (m : Int) := by omega
    clear hTR hneg
    go_enter Try.func116, Try.ntmps116
    go_wp2
    go_quiet (fail)
    clear d0 d1
    go_wp2_with fail
    refine (fault_any l p at_ 4 _ (h0.grew (Drew.grew ⟨nq, rfl⟩))).mono ?_
    rintro e3 w3 ⟨rfl, g3⟩
    have g03 := Grew.trans (Drew.grew ⟨nq, rfl⟩) g3
    have hb3' := hb0.grew g03
    have hp3 := hp0.grew g03
    obtain ⟨x0, x1, x2, x3⟩ := cells_of hb3'
    clear h0 hb0 hv hp0
    go_wp2
    have hf3 : Fr (· = p) w w3 := Fr.of_grew (Grew.trans (grew_alloc _ _) g03)
    refine bodyPost_ret (results_tc rfl _ _ ⟨w.heap.size, 0, none⟩ _ _ rfl rfl (loadVar_fault _ _ _ rfl ((hb3'.set 0 _).set 1 _))) rfl ?_
    rw [← HT.out]
    have eF := (hf3.set w.heap.size 0 (.int .i64 4) (fun h => absurd h (by omega))).set w.heap.size 1 (.int .i64 (fltAt 4 at_)) (fun h => absurd h (by omega))
    exact ⟨_, rfl, ownB_nil _ _, ⟨_, (hp3.other ⟨w.heap.size, 0, none⟩ (.int .i64 4) n2).other ⟨w.heap.size, 1, none⟩ (.int .i64 (fltAt 4 at_)) n2, h.bs eF hvw, hat, HKK.out⟩, eF⟩
  · rw [if_neg hs, Nat.add_zero] at hTR
    have HT := Lib.hid hTR
    have hs' : (m : Int) ≤ (l.length : Int) - (at_ : Int) := by omega
    have hd : decide ((l.length : Int) - (at_ : Int) < (m : Int)) = false := by simp; omega
    obtain ⟨a', c', hrun, hbs⟩ := slc_span hv at_ (at_ + m) (by omega) (by omega)
    rw [show at_ + m - at_ = m by omega] at hrun hbs
    push_cast at hrun
    have HBS := Lib.hid hbs
    have hlen : ((l.drop at_).take m).length = m := by rw [List.length_take, List.length_drop]; omega
    have kj := fun (w : World) (vb : Value) (hb : Bs w vb []) (va : Value) (ha : Bs w va ((l.drop at_).take m)) => join_any ((l.drop at_).take m) [] va vb w ha hb (by rw [hlen]; simp; omega)
    have KJ := Lib.hid kj
    have HL := Lib.hid hlen
    clear hbs hTR kj hneg hs hlen
    go_enter Try.func116, Try.ntmps116
    go_wp2
    go_quiet (fail)
    rename Nat => nq1
    go_wp2
    have hsum : IntKind.i64.wrap ((at_ : Int) + (m : Int)) = (at_ : Int) + (m : Int) := IntWalk.i64_in _ (by omega)
    have hge : (0 : Int) ≤ (at_ : Int) + (m : Int) := by omega
    refine wp_region_tail 15 (by kernel_rfl) (by kernel_rfl) ?_
    simp only [List.take_succ_cons, List.take_zero, List.drop_succ_cons, List.drop_zero]
    repeat still_step
    refine wpStill_nil ?_
    clear hrun hsum
    go_wp2_with fail
    refine (KJ.out _ _ (Sl.nil _ 1) _ (HBS.out _ (hv.ext (below_ext (Drew.grew ⟨nq1 + 1, by simp⟩))))).mono ?_
    rintro e3 w3 ⟨v3, rfl, ho, g3⟩
    have g03 : Grew (w.alloc (.cells #[.int .i64 0, .int .i64 0] 27)) w3 := Grew.trans (Drew.grew ⟨nq1 + 1, rfl⟩) g3
    have hb3' := hb0.grew g03
    have hp3 := hp0.grew g03
    obtain ⟨x0, x1, x2, x3⟩ := cells_of hb3'
    obtain ⟨y0, y1, y2, y3⟩ := cells_of hp3
    clear h0 hb0 hv hp0 d0 d1
    go_wp2
    have hf3 : Fr (· = p) w w3 := Fr.of_grew (Grew.trans (grew_alloc _ _) g03)
    have eB := ((hb3'.other ⟨p, 1, none⟩ (.int .i64 (at_ + m)) n1).set 0 (.int .i64 0)).set 1 (.int .i64 0)
    refine bodyPost_ret (results_tc rfl _ _ ⟨w.heap.size, 0, none⟩ _ _ rfl rfl (loadVar_fault _ _ _ rfl eB)) rfl ?_
    rw [← HT.out]
    have eF := ((hf3.set _ 1 (.int .i64 (at_ + m)) (fun _ => rfl)).set w.heap.size 0 (.int .i64 0) (fun h => absurd h (by omega))).set w.heap.size 1 (.int .i64 0) (fun h => absurd h (by omega))
    have ep := (((hp3.set 1 (.int .i64 (at_ + m))).other ⟨w.heap.size, 0, none⟩ (.int .i64 0) n2).other ⟨w.heap.size, 1, none⟩ (.int .i64 0) n2)
    refine ⟨_, rfl, ?_, ⟨_, ?_, h.bs eF hvw, by simp; omega, HKK.out⟩, eF⟩
    · have hb : w.heap.size + 1 ≤ ((w.alloc (.cells #[.int .i64 0, .int .i64 0] 27)).drewN (nq1 + 1)).heap.size := by simp
      rw [List.append_nil] at ho
      have hge := fun g e => (own_lt ho g e).1
      have e1 : v3.ownBlock ≠ some w.heap.size := fun e => by have := hge _ e; omega
      have e2 : v3.ownBlock ≠ some p := fun e => by have := hge _ e; omega
      exact own_set (own_set (own_set (own_mono ho (by omega)) _ _ e2) _ _ e1) _ _ e1
    · push_cast
      exact ep
end Go.Proofs.Ytgoaijpckckdnaa
