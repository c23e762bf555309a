/- value.Copy, rescriptref09.Small, Place, Default: contracts. -/
import Derived.Test.YtcibhkiddeggmaaVa2
import Derived.Test.YtcibhkiddeggmaaSchP
namespace Go.Proofs.Ytcibhkiddeggmaa
open Go Go.RowKit Go.Shelf

def zMsg : Array Value := #[.int .u8 0, .int .u64 0, .int .u64 0, .int .u64 0, .int .u64 0, .int .u64 0, .int .u64 0, .string ⟨#[]⟩, .string ⟨#[]⟩, .slice none 0 0]
theorem msg_row : (Try.prog.info? 44).map (·.size) = some 10 := by kernel_rfl
theorem msgA_one (m : Msg) (a : Option Addr) (n c : Nat) : (msgA m (.slice a n c)).all (·.oneCell') = true := by simp [msgA, Value.oneCell']
theorem msgA_set (m : Msg) (lv v : Value) : (msgA m lv).setIfInBounds 9 v = msgA m v := rfl
set_option maxRecDepth 100000 in
set_option maxHeartbeats 4000000 in
theorem copy_any (m : Msg) (lv : Value) (w : World) (hl : Tx w lv m.l) (hlen : m.l.length ≤ 1000000000) :
    Calls Try.prog 21 #[.agg (msgA m lv)] w fun e w' => ∃ v, e = .returned (.agg (msgA m v)) ∧ OwnT w' w.heap.size v m.l ∧ Grew w w' ∧ (lv = .slice none 0 0 → v = .slice none 0 0) := by
  have hg := grew2 w (.cells (msgA m lv) 44) (.cells zMsg 44)
  have hc := tclone_any m.l lv _ (hl.grew hg) (by omega)
  have HC := Lib.hid hc
  have HG := Lib.hid hg
  have k1 : Blk ((w.alloc (.cells (msgA m lv) 44)).alloc (.cells zMsg 44)) w.heap.size 44 (msgA m lv) := (Blk.new _ _ _).alloc _
  have k2 : Blk ((w.alloc (.cells (msgA m lv) 44)).alloc (.cells zMsg 44)) (w.heap.size + 1) 44 zMsg := Blk.new2 _ _ _ _
  have K1 := Lib.hid k1
  have K2 := Lib.hid k2
  obtain ⟨aa, ca, rfl⟩ := tx_len hl
  simp only [msgA, zMsg] at HG HC K1 K2 ⊢
  clear hl hg hc k1 k2
  go_enter Try.func21, Try.ntmps21
  go_wp2_with fail
  refine HC.out.mono ?_
  rintro e w1 ⟨v1, rfl, r1, g1, n1⟩
  have HN1 := Lib.hid n1
  clear n1
  obtain ⟨a1, c1, rfl⟩ := tx_len (Sl.of_own r1)
  have q1 := K1.out.grew g1
  have q2 := K2.out.grew g1
  have x9 := q1.cell 9
  have f9 := q1.frozen 9
  simp only [List.getElem?_toArray, List.getElem?_cons_zero, List.getElem?_cons_succ] at x9
  have s1 := q1.set 9 (.slice a1 m.l.length c1)
  have s2 := q2.other ⟨w.heap.size, 9, none⟩ (.slice a1 m.l.length c1) (by simp)
  have r2 := own_set r1 ⟨w.heap.size, 9, none⟩ (.slice a1 m.l.length c1) (fun e => blk_ne_row q1 r1 (by decide) e.symm)
  have g2 : Grew w (w1.setCell ⟨w.heap.size, 9, none⟩ (.slice a1 m.l.length c1)) := grew_set (Below.trans HG.out (g1.mono (by simp; omega))) (Nat.le_refl _) _
  rw [show (#[.int .u8 m.k, .int .u64 (m.n 0), .int .u64 (m.n 1), .int .u64 (m.n 2), .int .u64 (m.n 3), .int .u64 (m.n 4), .int .u64 (m.n 5), .string (m.s 0), .string (m.s 1), .slice aa m.l.length ca] : Array Value).setIfInBounds 9 (.slice a1 m.l.length c1) = msgA m (.slice a1 m.l.length c1) from rfl] at s1
  have hbk : ∀ g, (Value.slice a1 m.l.length c1).ownBlock = some g → g ≠ w.heap.size + 1 := fun g hg => by have := (own_lt r1 g hg).1; simp at this; omega
  have HBK := Lib.hid hbk
  have S1 := Lib.hid s1
  have S2 := Lib.hid s2
  have R2 := Lib.hid r2
  have G2 := Lib.hid g2
  clear s1 s2 r2 g2 q1 q2 r1 K1 K2 HC hbk
  go_upto_region 2 with (fail)
  refine wp_region_lit ?_
  refine wpList_load_row rfl 44 _ rfl w.heap.size rfl 44 _ (0, 0) _ S1.out Try.underlying44 rfl (by kernel_rfl) ?_
  refine wpList_store_row rfl 44 _ _ rfl (w.heap.size + 1) _ rfl rfl 44 _ S2.out (by kernel_rfl) rfl (msgA_one _ _ _ _) ?_
  refine wpList_nil ?_
  go_wp2_with fail
  refine bodyPost_ret (results_cell_row rfl _ _ (w.heap.size + 1) 44 _ (0, 0) _ (by kernel_rfl) (S2.out.row _) Try.underlying44 rfl (by kernel_rfl)) rfl ?_
  refine ⟨_, rfl, own_mono (own_block R2.out fun g hg => setRow_other _ _ _ _ (HBK.out g hg)) (by simp; omega), below_setRow G2.out (by omega) _, HN1.out⟩
def smallB (m : Msg) : Bool := !(decide (8000 < (m.s 0).size) || decide (8000 < (m.s 1).size) || decide (70 < m.l.length)) && m.l.all fun s => decide (s.size ≤ 200)
theorem small_no {m : Msg} (h : 8000 < (m.s 0).size ∨ 8000 < (m.s 1).size ∨ 70 < m.l.length) : smallB m = false := by unfold smallB; rcases h with h | h | h <;> simp [h]
theorem small_yes {m : Msg} (h0 : ¬ 8000 < (m.s 0).size) (h1 : ¬ 8000 < (m.s 1).size) (h2 : ¬ 70 < m.l.length) : smallB m = m.l.all fun s => decide (s.size ≤ 200) := by unfold smallB; simp [h0, h1, h2]
set_option maxRecDepth 100000 in
set_option maxHeartbeats 4000000 in
theorem small9_any (m : Msg) (lv : Value) (w : World) (hl : Tx w lv m.l) :
    Calls Try.prog 17 #[.agg (msgA m lv)] w fun e w' => e = .returned (.bool (smallB m)) ∧ Grew w w' := by
  obtain ⟨aa, ca, rfl, -, -, -, hc⟩ := hl.open
  have HC := Lib.hid (fun h : 0 < m.l.length => hc (by simpa using h))
  have HG := Lib.hid (grew_alloc w (.cells (msgA m (.slice aa m.l.length ca)) 44))
  simp only [msgA] at HG ⊢
  clear hl hc
  by_cases h0 : 8000 < (m.s 0).size
  · have E := Lib.hid (small_no (m := m) (.inl h0))
    have z0 : decide (((m.s 0).size : Int) > 8000) = true := by simp; omega
    go_enter Try.func17, Try.ntmps17
    go_wp2
    go_ret
    exact ⟨ret_bool E.out.symm, HG.out⟩
  by_cases h1 : 8000 < (m.s 1).size
  · have E := Lib.hid (small_no (m := m) (.inr (.inl h1)))
    have z0 : decide (((m.s 0).size : Int) > 8000) = false := by simp; omega
    have z1 : decide (((m.s 1).size : Int) > 8000) = true := by simp; omega
    clear h0 h1
    go_enter Try.func17, Try.ntmps17
    go_wp2
    go_ret
    exact ⟨ret_bool E.out.symm, HG.out⟩
  by_cases h2 : 70 < m.l.length
  · have E := Lib.hid (small_no (m := m) (.inr (.inr h2)))
    have z0 : decide (((m.s 0).size : Int) > 8000) = false := by simp; omega
    have z1 : decide (((m.s 1).size : Int) > 8000) = false := by simp; omega
    have z2 : decide ((m.l.length : Int) > 70) = true := by simp; omega
    clear h0 h1 h2
    go_enter Try.func17, Try.ntmps17
    go_wp2
    go_ret
    exact ⟨ret_bool E.out.symm, HG.out⟩
  have E := Lib.hid (small_yes (m := m) h0 h1 h2)
  have z0 : decide (((m.s 0).size : Int) > 8000) = false := by simp; omega
  have z1 : decide (((m.s 1).size : Int) > 8000) = false := by simp; omega
  have z2 : decide ((m.l.length : Int) > 70) = false := by simp; omega
  have hl70 : (m.l.length : Int) ≤ 70 := by omega
  clear h0 h1 h2
  obtain ⟨L, hL⟩ : ∃ L, L = m.l := ⟨_, rfl⟩
  rw [← hL] at HC HG E z2 hl70 ⊢
  clear hL
  go_enter Try.func17, Try.ntmps17
  go_wp2
  go_loop [3] (fun i => ∃ k : Nat, k ≤ L.length ∧ i = .int .i64 k ∧ RowKit.Hid (((L.take k).all fun s => decide (s.size ≤ 200)) = true)) (fun i => L.length - (intOf i).toNat)
  case atStart => exact ⟨0, Nat.zero_le _, rfl, Lib.hid (by simp)⟩
  case round =>
    obtain ⟨k, hk, rfl, hI⟩ := hrel
    by_cases hlt : k < L.length
    · obtain ⟨b, o, rfl, hcl⟩ := HC.out (by omega)
      have x0 := (below_ext HG.out) _ _ (hcl k _ (tx_get L k hlt))
      have hs := List.take_succ_eq_append_getElem hlt
      have hm := List.getElem_mem hlt
      generalize L[k] = s at x0 hs hm
      have HS := Lib.hid hs
      have HM := Lib.hid hm
      clear hcl hs hm
      by_cases e : 200 < s.size
      · have q1 : decide ((s.size : Int) > 200) = true := by simp; omega
        have HE := Lib.hid e
        clear e
        go_wp2
        go_ret
        refine ⟨ret_bool ?_, HG.out⟩
        rw [E.out]
        symm
        rw [List.all_eq_false]
        exact ⟨s, HM.out, by have := HE.out; simp; omega⟩
      · have q1 : decide ((s.size : Int) > 200) = false := by simp; omega
        have HE := Lib.hid e
        clear e
        go_wp2
        go_round
        case rel => exact ⟨k + 1, by omega, by go_num, Lib.hid (by rw [HS.out, List.all_append, hI.out]; have := HE.out; simp; omega)⟩
        case measure => simp [intOf]; omega
    · obtain rfl : k = L.length := by omega
      rw [List.take_length] at hI
      go_wp2
      go_ret
      exact ⟨ret_bool (by rw [E.out, hI.out]), HG.out⟩
def plLv (t : Int) (lv : Value) : Value := if t = 10 then lv else .slice none 0 0
theorem num_facts {t : Int} (h : numB t = true) : 1 ≤ t ∧ t ≤ 6 := by unfold numB at h; simp at h; omega
theorem txt_facts {t : Int} (h : txtB t = true) : 7 ≤ t ∧ t ≤ 9 := by unfold txtB at h; simp at h; omega
theorem pl_num {m : Msg} {t sl : Int} (h : numB t = true) (h0 : 0 ≤ sl) (h6 : sl < 6) : plN m t sl = m.n sl.toNat ∧ plS m t sl = ⟨#[]⟩ ∧ plL m t = [] ∧ ∀ lv, plLv t lv = .slice none 0 0 := by
  have := num_facts h
  unfold plN plS plL plLv
  rw [if_pos ⟨h, h0, h6⟩, if_neg (by unfold txtB; simp; omega), if_neg (by omega)]
  exact ⟨rfl, rfl, rfl, fun _ => by rw [if_neg (by omega)]⟩
theorem pl_txt {m : Msg} {t sl : Int} (h : txtB t = true) (h0 : 0 ≤ sl) (h2 : sl < 2) : plN m t sl = 0 ∧ plS m t sl = m.s sl.toNat ∧ plL m t = [] ∧ ∀ lv, plLv t lv = .slice none 0 0 := by
  have := txt_facts h
  unfold plN plS plL plLv
  rw [if_neg (show ¬ (numB t = true ∧ 0 ≤ sl ∧ sl < 6) from by unfold numB; simp; omega), if_pos ⟨h, h0, h2⟩, if_neg (by omega)]
  exact ⟨rfl, rfl, rfl, fun _ => by rw [if_neg (by omega)]⟩
theorem pl_list {m : Msg} {sl : Int} : plN m 10 sl = 0 ∧ plS m 10 sl = ⟨#[]⟩ ∧ plL m 10 = m.l ∧ ∀ lv, plLv 10 lv = lv := ⟨by unfold plN; rw [if_neg (by simp [numB])], by unfold plS; rw [if_neg (by simp [txtB])], rfl, fun _ => rfl⟩
theorem pl_none {m : Msg} {t sl : Int} (hn : ¬ (numB t = true ∧ 0 ≤ sl ∧ sl < 6)) (ht : ¬ (txtB t = true ∧ 0 ≤ sl ∧ sl < 2)) (h10 : t ≠ 10) : plN m t sl = 0 ∧ plS m t sl = ⟨#[]⟩ ∧ plL m t = [] ∧ ∀ lv, plLv t lv = .slice none 0 0 := by
  unfold plN plS plL plLv
  rw [if_neg hn, if_neg ht, if_neg h10]
  exact ⟨rfl, rfl, rfl, fun _ => by rw [if_neg h10]⟩
end Go.Proofs.Ytcibhkiddeggmaa
