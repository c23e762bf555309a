/- Package inlet: contracts, the third part. -/
import Derived.Test.YtcibhkiddeggmaaInm
namespace Go.Proofs.Ytcibhkiddeggmaa
open Go Go.RowKit Go.Shelf
attribute [local go_sem] Oper.semAt_some
variable {K : Value → Prop}

def takeR (l : List UInt8) (at_ : Nat) (n : Int) : List UInt8 × Nat × Nat := if n < 0 then ([], 1, at_) else cutR l at_ 0 n.toNat

def bytesR (l : List UInt8) (at_ : Nat) (most : Int) : List UInt8 × Nat × Nat :=
  if (vget (l.drop at_)).2.2 ≠ 0 then ([], (vget (l.drop at_)).2.2, at_)
  else if most < 0 ∨ most < ((vget (l.drop at_)).1 : Int) then ([], 2, at_)
  else cutR l at_ (vget (l.drop at_)).2.1 (vget (l.drop at_)).1
set_option maxRecDepth 10000 in
set_option maxHeartbeats 4000000 in
theorem ibytes_any (l : List UInt8) (p at_ : Nat) (n : Int) (hn0 : -9223372036854775808 ≤ n) (hn : n ≤ 9223372036854775807) (hl : l.length ≤ 1000000000) (w : World) (h : InI K w p l at_) : Calls Try.prog 82 #[.pointer (some ⟨p, 0, none⟩), .int .i64 n] w fun e w' => ∃ v, e = .returned (.tuple #[v, outF (bytesR l at_ n).2.1 at_]) ∧ OwnB w' w.heap.size v (bytesR l at_ n).1 ∧ InI K w' p l (bytesR l at_ n).2.2 ∧ Fr (· = p) w w' := by
  have hbd := vget_bd (l.drop at_)
  have hat : at_ ≤ l.length := h.choose_spec.2.2.1
  rw [List.length_drop] at hbd
  have hp := h.lt
  have h0 := h.grew (grew_alloc w (.cells #[.int .i64 0, .int .i64 0] 47))
  have hb0 := Blk.new w 47 #[.int .i64 0, .int .i64 0]
  have K := fun v w hb => get_any (l.drop at_) v w hb
  obtain ⟨R, hTR⟩ : ∃ R, bytesR l at_ n = R := ⟨_, rfl⟩
  rw [hTR]
  unfold bytesR at hTR
  obtain ⟨⟨num, k, e⟩, hR⟩ : ∃ R, vget (l.drop at_) = R := ⟨_, rfl⟩
  simp only [hR] at hbd K hTR
  obtain ⟨hb1, hb2, hb3, hb4, hb5⟩ := hbd
  have KG := Lib.hid K
  clear hR K hb4 hb5
  by_cases he : e = 0
  case neg =>
    rw [if_pos he] at hTR
    have HT := Lib.hid hTR
    have hne : ((e : Int) != 0) = true := by simp; omega
    have HE := Lib.hid he
    clear hTR he
    go_enter Try.func82, Try.ntmps82
    go_wp2_with fail
    refine (rest_any l p at_ _ h0).mono ?_
    rintro e1 w1 ⟨v, rfl, hv, nd, rfl⟩
    go_wp2_with fail
    refine (KG.out v _ hv).mono ?_
    rintro e2 w2 ⟨rfl, rfl⟩
    go_wp2_with fail
    refine (end_any l p at_ 0 e (fun he => absurd he HE.out) _ (h0.grew (Drew.grew ⟨nd, rfl⟩))).mono ?_
    rintro e3 w3 ⟨rfl, hi, hf⟩
    rw [if_neg HE.out] at hi
    have hb3' := (hb0.grew (Drew.grew ⟨nd, rfl⟩)).fr hf (by omega)
    obtain ⟨c0, c1, f0, f1⟩ := cells_of hb3'
    clear hb0 h0
    go_wp2
    refine bodyPost_ret (results_tc rfl _ _ ⟨w.heap.size, 0, none⟩ _ _ rfl rfl (loadVar_fault _ _ _ rfl ((hb3'.set 0 _).set 1 _))) rfl ?_
    rw [← HT.out]
    exact ⟨_, rfl, ownB_nil _ _, hi.cell hb3' (noByte_fault _ _) (by omega) (fr_set2 _ _ _ _), ((Fr.trans (Fr.of_grew (Grew.trans (grew_alloc _ _) (Drew.grew ⟨nd, rfl⟩))) hf).set _ 0 _ (fun h => absurd h (by omega))).set _ 1 _ (fun h => absurd h (by omega))⟩
  subst he
  rw [if_neg (by simp)] at hTR
  by_cases hm : n < 0 ∨ n < (num : Int)
  · rw [if_pos hm] at hTR
    have HT := Lib.hid hTR
    clear hTR
    have hmm : n < 0 ∨ (0 ≤ n ∧ n < (num : Int)) := by omega
    clear hm
    rcases hmm with hm | ⟨hm0, hm⟩
    all_goals
      go_enter Try.func82, Try.ntmps82
      go_wp2_with fail
      refine (rest_any l p at_ _ h0).mono ?_
      rintro e1 w1 ⟨v, rfl, hv, nd, rfl⟩
      go_wp2_with fail
      refine (KG.out v _ hv).mono ?_
      rintro e2 w2 ⟨rfl, rfl⟩
      go_wp2_with fail
      refine (end_any l p at_ 0 2 (fun he => by omega) _ (h0.grew (Drew.grew ⟨nd, rfl⟩))).mono ?_
      rintro e3 w3 ⟨rfl, hi, hf⟩
      rw [if_neg (by omega)] at hi
      have hb3' := (hb0.grew (Drew.grew ⟨nd, rfl⟩)).fr hf (by omega)
      obtain ⟨c0, c1, f0, f1⟩ := cells_of hb3'
      clear hb0 h0
      go_wp2
      refine bodyPost_ret (results_tc rfl _ _ ⟨w.heap.size, 0, none⟩ _ _ rfl rfl (loadVar_fault _ _ _ rfl ((hb3'.set 0 _).set 1 _))) rfl ?_
      rw [← HT.out]
      exact ⟨_, rfl, ownB_nil _ _, hi.cell hb3' (noByte_fault _ _) (by omega) (fr_set2 _ _ _ _), ((Fr.trans (Fr.of_grew (Grew.trans (grew_alloc _ _) (Drew.grew ⟨nd, rfl⟩))) hf).set _ 0 _ (fun h => absurd h (by omega))).set _ 1 _ (fun h => absurd h (by omega))⟩
  · rw [if_neg hm] at hTR
    have hm0 : 0 ≤ n := by omega
    have hm1 : (num : Int) ≤ n := by omega
    clear hm
    by_cases hs : l.length - at_ < num
    · have hT2 : (([], 4, at_) : List UInt8 × Nat × Nat) = R := by rw [← hTR, cutR, if_pos (by omega)]
      have HT := Lib.hid hT2
      clear hTR hT2
      have hs' : ((l.length - at_ : Nat) : Int) < (num : Int) := by omega
      go_enter Try.func82, Try.ntmps82
      go_wp2_with fail
      refine (rest_any l p at_ _ h0).mono ?_
      rintro e1 w1 ⟨v, rfl, hv, nd, rfl⟩
      go_wp2_with fail
      refine (KG.out v _ hv).mono ?_
      rintro e2 w2 ⟨rfl, rfl⟩
      go_wp2_with fail
      refine (left_any l p at_ _ (h0.grew (Drew.grew ⟨nd, rfl⟩))).mono ?_
      rintro e2 w2 ⟨rfl, nd2, rfl⟩
      go_wp2_with fail
      refine (end_any l p at_ 0 4 (fun he => by omega) _ (h0.grew (Drew.grew ⟨nd + nd2, rfl⟩))).mono ?_
      rintro e3 w3 ⟨rfl, hi, hf⟩
      rw [if_neg (by omega)] at hi
      have hb3' := (hb0.grew (Drew.grew ⟨nd + nd2, rfl⟩)).fr hf (by omega)
      obtain ⟨c0, c1, f0, f1⟩ := cells_of hb3'
      clear hb0 h0
      go_wp2
      refine bodyPost_ret (results_tc rfl _ _ ⟨w.heap.size, 0, none⟩ _ _ rfl rfl (loadVar_fault _ _ _ rfl ((hb3'.set 0 _).set 1 _))) rfl ?_
      rw [← HT.out]
      exact ⟨_, rfl, ownB_nil _ _, hi.cell hb3' (noByte_fault _ _) (by omega) (fr_set2 _ _ _ _), ((Fr.trans (Fr.of_grew (Grew.trans (grew_alloc _ _) (Drew.grew ⟨nd + nd2, rfl⟩))) hf).set _ 0 _ (fun h => absurd h (by omega))).set _ 1 _ (fun h => absurd h (by omega))⟩
    · have hs' : (num : Int) ≤ ((l.length - at_ : Nat) : Int) := by omega
      have kc := fun w (h : InI K w p l at_) => icut_any l p at_ k num hb2 (by omega) hl w h
      rw [hTR] at kc
      have KC := Lib.hid kc
      clear hTR kc hs
      go_enter Try.func82, Try.ntmps82
      go_wp2_with fail
      refine (rest_any l p at_ _ h0).mono ?_
      rintro e1 w1 ⟨v, rfl, hv, nd, rfl⟩
      go_wp2_with fail
      refine (KG.out v _ hv).mono ?_
      rintro e2 w2 ⟨rfl, rfl⟩
      go_wp2_with fail
      refine (left_any l p at_ _ (h0.grew (Drew.grew ⟨nd, rfl⟩))).mono ?_
      rintro e2 w2 ⟨rfl, nd2, rfl⟩
      go_wp2_with fail
      refine (KC.out _ (h0.grew (Drew.grew ⟨nd + nd2, rfl⟩))).mono ?_
      rintro e3 w3 ⟨v3, rfl, ho, hi, hf⟩
      have hb3' := (hb0.grew (Drew.grew ⟨nd + nd2, rfl⟩)).fr hf (by omega)
      obtain ⟨c0, c1, f0, f1⟩ := cells_of hb3'
      have HI := Lib.hid hi
      clear hb0 h0 hi
      go_wp2
      refine bodyPost_ret (results_tc rfl _ _ ⟨w.heap.size, 0, none⟩ _ _ rfl rfl (loadVar_fault _ _ _ rfl ((hb3'.set 0 _).set 1 _))) rfl ?_
      refine ⟨_, rfl, ?_, HI.out.cell hb3' (noByte_fault _ _) (by omega) (fr_set2 _ _ _ _), ((Fr.trans (Fr.of_grew (Grew.trans (grew_alloc _ _) (Drew.grew ⟨nd + nd2, rfl⟩))) hf).set _ 0 _ (fun h => absurd h (by omega))).set _ 1 _ (fun h => absurd h (by omega))⟩
      have hne : v3.ownBlock ≠ some w.heap.size := fun e => by have := (own_lt ho _ e).1; simp at this; omega
      exact own_set (own_set (own_mono ho (by simp)) _ _ hne) _ _ hne
end Go.Proofs.Ytcibhkiddeggmaa
