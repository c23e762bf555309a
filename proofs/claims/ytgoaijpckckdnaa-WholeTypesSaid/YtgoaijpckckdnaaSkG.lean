/- rescriptref06.Like, Bare, Same, rescriptlaw06.few: contracts. -/
import Derived.Test.YtgoaijpckckdnaaSkP
import Derived.Test.YtgoaijpckckdnaaFld
import Derived.Test.YtgoaijpckckdnaaGrw
namespace Go.Proofs.Ytgoaijpckckdnaa
open Go Go.RowKit Go.Shelf
attribute [local go_sem] Oper.semAt_some

set_option maxRecDepth 10000 in
set_option maxHeartbeats 1000000 in
theorem like_any (a b : Fld) (va vb : Value) (w : World) (ha : Bs w va (fB a)) (hb : Bs w vb (fB b)) :
    Calls Try.prog 26 #[fldA a va, fldA b vb] w fun e w' => e = .returned (.bool (likeF a b)) ∧ Grew w w' := by
  obtain ⟨n1, w1, k1, l1, p1⟩ := a
  obtain ⟨n2, w2, k2, l2, p2⟩ := b
  have gw : ∀ c1 c2, Grew w ((w.alloc (.cells c1 39)).alloc (.cells c2 39)) := fun _ _ => ((Below.refl _ _).alloc (Nat.le_refl _) _).alloc (by simp) _
  unfold likeF
  simp only [fldA, fB] at ha hb ⊢
  by_cases h1 : n1 = n2
  · subst h1
    by_cases h2 : w1 = w2
    · subst h2
      by_cases h3 : k1 = k2
      · subst h3
        have KS := Lib.hid (fun W hW => same_any l1 l2 va vb W (ha.grew hW) (hb.grew hW))
        go_enter Try.func26, Try.ntmps26
        go_wp2_with fail
        refine (KS.out _ (gw _ _)).mono ?_
        rintro e w1 ⟨rfl, hd⟩
        go_wp2
        go_ret
        exact ⟨ret_bool (by simp), (gw _ _).trans hd.grew⟩
      · have q : ((k1 : Int) == (k2 : Int)) = false := by simp; omega
        have H3 := Lib.hid h3
        clear h3
        go_enter Try.func26, Try.ntmps26
        go_wp2
        go_ret
        exact ⟨ret_bool (by simp [H3.out]), gw _ _⟩
    · have q : ((w1 : Int) == (w2 : Int)) = false := by simp; omega
      have H3 := Lib.hid h2
      clear h2
      go_enter Try.func26, Try.ntmps26
      go_wp2
      go_ret
      exact ⟨ret_bool (by simp [H3.out]), gw _ _⟩
  · have q : (n1 == n2) = false := by simp; omega
    have H3 := Lib.hid h1
    clear h1
    go_enter Try.func26, Try.ntmps26
    go_wp2
    go_ret
    exact ⟨ret_bool (by simp [H3.out]), gw _ _⟩
/-- the slice value of what is left -/
def bareV (x : Fld) (v : Value) : Value := if fWire x = 2 then v else .slice none 0 0
theorem bareV_bs {x : Fld} {v : Value} {w : World} (h : Bs w v (fB x)) : Bs w (bareV x v) (fB (bareF x)) := by
  unfold bareV bareF
  by_cases h2 : fWire x = 2
  · rw [if_pos h2, if_pos h2]; exact h
  rw [if_neg h2, if_neg h2]
  by_cases h5 : fWire x = 5
  · rw [if_pos h5]; exact Sl.nil _ _
  · rw [if_neg h5]; exact Sl.nil _ _
set_option maxRecDepth 10000 in
set_option maxHeartbeats 1000000 in
theorem bare_any (x : Fld) (v : Value) (w : World) (hb : Bs w v (fB x)) :
    Calls Try.prog 27 #[fldA x v] w fun e w' => e = .returned (fldA (bareF x) (bareV x v)) ∧ Grew w w' := by
  obtain ⟨n1, w1, k1, l1, p1⟩ := x
  obtain ⟨a, n, c, rfl, hn⟩ := bs_shape hb
  simp only [fB] at hb
  have gw : ∀ c1 c2, Grew w ((w.alloc (.cells c1 39)).alloc (.cells c2 39)) := fun _ _ => ((Below.refl _ _).alloc (Nat.le_refl _) _).alloc (by simp) _
  clear hb
  unfold bareF bareV
  simp only [fWire, fNum, fN, fB, fAt]
  by_cases h2 : w1 = 2
  · subst h2
    rw [if_pos rfl, if_pos rfl]
    go_enter Try.func27, Try.ntmps27
    go_wp2
    refine bodyPost_ret (results_c rfl _ _ ⟨w.heap.size + 1, 0, none⟩ _ rfl (loadVar_field _ _ _ rfl (Blk.at (by simp)))) rfl ?_
    exact ⟨rfl, gw _ _⟩
  · have q : ((w1 : Int) == 2) = false := by simp; omega
    rw [if_neg h2, if_neg h2]
    by_cases h5 : w1 = 5
    · subst h5
      rw [if_pos rfl]
      clear h2
      go_enter Try.func27, Try.ntmps27
      go_wp2
      refine bodyPost_ret (results_c rfl _ _ ⟨w.heap.size + 1, 0, none⟩ _ rfl (loadVar_field _ _ _ rfl (Blk.at (by simp)))) rfl ?_
      exact ⟨rfl, gw _ _⟩
    · have q5 : ((w1 : Int) == 5) = false := by simp; omega
      rw [if_neg h5]
      clear h2 h5
      go_enter Try.func27, Try.ntmps27
      go_wp2
      refine bodyPost_ret (results_c rfl _ _ ⟨w.heap.size + 1, 0, none⟩ _ rfl (loadVar_field _ _ _ rfl (Blk.at (by simp)))) rfl ?_
      exact ⟨rfl, gw _ _⟩
def fewF (fs : List Fld) : Bool := decide (fs.length ≤ 40) && fs.all fun f => decide ((fB f).length ≤ 1000)
set_option maxRecDepth 10000 in
set_option maxHeartbeats 1000000 in
theorem few06_any (A : List FFV) (v : Value) (w : World) (h : FlR w v A) :
    Calls Try.prog 22 #[v] w fun e w' => e = .returned (.bool (fewF (A.map (·.1)))) ∧ w = w' := by
  obtain ⟨a, c, rfl, h1, h2, -, h4⟩ := h.1.open
  unfold maxLen at h2
  have HC := Lib.hid h
  have H4 := Lib.hid h4
  clear h4
  by_cases hl : 40 < A.length
  · have hf : fewF (A.map (·.1)) = false := by simp [fewF]; omega
    have HF := Lib.hid hf
    have hd : decide ((A.length : Int) > 40) = true := by simp; omega
    clear hf h
    go_enter Try.func22, Try.ntmps22
    go_wp2
    go_ret
    exact ⟨ret_bool HF.out.symm, rfl⟩
  have hd : decide ((A.length : Int) > 40) = false := by simp; omega
  have HL := Lib.hid hl
  clear h hl
  go_enter Try.func22, Try.ntmps22
  go_wp2
  go_loop [3] (fun i => ∃ k : Nat, k ≤ A.length ∧ i = .int .i64 k ∧ RowKit.Hid (((A.take k).all fun x => decide ((fB x.1).length ≤ 1000)) = true)) (fun i => A.length - (intOf i).toNat)
  case atStart => exact ⟨0, Nat.zero_le _, rfl, by show _ = _; simp⟩
  case round =>
    obtain ⟨k, hk, rfl, hI⟩ := hrel
    by_cases hlt : k < A.length
    · obtain ⟨b, o, rfl, -⟩ := H4.out (by omega)
      obtain ⟨-, -, -, x1, -, x2⟩ := fl_cells HC.out k hlt
      obtain ⟨ua, un, uc, e, hun⟩ := bs_shape x2
      rw [e] at x1
      have hun' := hun.out
      have hs := List.take_succ_eq_append_getElem hlt
      have hm := List.getElem_mem hlt
      have HS := Lib.hid hs
      have HM := Lib.hid hm
      have HUN := Lib.hid hun'
      clear hs hm e x2 hun hun'
      by_cases e : 1000 < un
      · have q1 : decide ((un : Int) > 1000) = true := by simp; omega
        have HE := Lib.hid e
        clear e
        go_wp2
        go_ret
        refine ⟨ret_bool ?_, rfl⟩
        have : (A.map (·.1)).all (fun f => decide ((fB f).length ≤ 1000)) = false := by
          rw [List.all_eq_false]
          refine ⟨A[k].1, List.mem_map.2 ⟨_, HM.out, rfl⟩, ?_⟩
          have := HUN.out; have := HE.out; simp; omega
        unfold fewF; rw [this]; simp
      · have q1 : decide ((un : Int) > 1000) = false := by simp; omega
        have HE := Lib.hid e
        clear e
        go_wp2
        go_round
        case rel => exact ⟨k + 1, by omega, by go_num, by show _ = _; rw [HS.out, List.all_append, hI.out]; have := HUN.out; have := HE.out; simp; omega⟩
        case measure => simp [intOf]; omega
    · obtain rfl : k = A.length := by omega
      rw [List.take_length] at hI
      go_wp2
      go_ret
      refine ⟨ret_bool ?_, rfl⟩
      unfold fewF
      rw [List.all_map]
      have h1 := hI.out
      have h2 := HL.out
      simp only [Function.comp_def]
      rw [h1, decide_eq_true (by rw [List.length_map]; omega)]; rfl
end Go.Proofs.Ytgoaijpckckdnaa
