/- value.Clean: contract. ; rescriptref09.one: contract. ; value.fits, rescriptref09.one: contracts. -/
import Derived.Test.YtbjoohafgkodcaaGreatVa3
import Derived.Test.YtbjoohafgkodcaaGreatUtr
import Derived.Test.YtbjoohafgkodcaaGreatVa1
import Derived.Test.YtbjoohafgkodcaaGreatSchS
namespace Go.Proofs.YtbjoohafgkodcaaGreat
open Go Go.RowKit Go.Shelf

/-- texts are not longer than a machine's memory -/
def okM (m : Msg) : Prop := (∀ i, i < 2 → (m.s i).size ≤ 9223372036854775807) ∧ ∀ s ∈ m.l, s.size ≤ 9223372036854775807
/-- what is wrong with the first text that isn't one -/
def firstE (most : Int) : List ByteArray → Nat
  | [] => 0
  | s :: l => if chkV s most = 0 then firstE most l else chkV s most
def errM (m : Msg) (t sl : Int) : Nat :=
  if ((t = 1 ∨ t = 5) ∧ 4294967295 < plN m t sl) ∨ (t = 4 ∧ 1 < plN m t sl) then 1
  else if txtB t = true then chkV (plS m t sl) (mostV t)
  else if 64 < (plL m t).length then 2 else firstE (mostV t) (plL m t)
theorem firstE_app {most : Int} {l : List ByteArray} {k : Nat} (h : firstE most (l.take k) = 0) : firstE most l = firstE most (l.drop k) := by
  induction k generalizing l with
  | zero => simp
  | succ k ih =>
    cases l with
    | nil => simp
    | cons s l =>
      rw [List.take_succ_cons] at h
      rw [List.drop_succ_cons]
      have e1 : firstE most (s :: l.take k) = if chkV s most = 0 then firstE most (l.take k) else chkV s most := rfl
      have e2 : firstE most (s :: l) = if chkV s most = 0 then firstE most l else chkV s most := rfl
      rw [e1] at h
      rw [e2]
      by_cases c : chkV s most = 0
      · rw [if_pos c] at h ⊢; exact ih h
      · rw [if_neg c] at h; exact absurd h c
theorem firstE_snoc {most : Int} {l : List ByteArray} {s : ByteArray} (h : firstE most l = 0) (hs : chkV s most = 0) : firstE most (l ++ [s]) = 0 := by
  induction l with
  | nil => simp [firstE, hs]
  | cons x l ih =>
    unfold firstE at h
    rw [List.cons_append]
    unfold firstE
    by_cases c : chkV x most = 0
    · rw [if_pos c] at h ⊢; exact ih h
    · rw [if_neg c] at h; exact absurd h c
theorem firstE_at {most : Int} {l : List ByteArray} {k : Nat} (hk : k < l.length) (h : firstE most (l.take k) = 0) (hs : chkV l[k] most ≠ 0) : firstE most l = chkV l[k] most := by
  rw [firstE_app h, List.drop_eq_getElem_cons hk]
  unfold firstE; rw [if_neg hs]
theorem firstE_next {most : Int} {l : List ByteArray} {k : Nat} (hk : k < l.length) (h : firstE most (l.take k) = 0) (hs : chkV l[k] most = 0) : firstE most (l.take (k + 1)) = 0 := by
  rw [List.take_succ_eq_append_getElem hk]; exact firstE_snoc h hs
theorem chkV_le (s : ByteArray) (most : Int) : chkV s most ≤ 9 := by unfold chkV; repeat' split
                                                                     all_goals omega
theorem err_num {m : Msg} {t sl : Int} (hn : numB t = true) (h0 : 0 ≤ sl) (h6 : sl < 6) : errM m t sl = if (t = 1 ∨ t = 5) ∧ 4294967295 < m.n sl.toNat ∨ t = 4 ∧ 1 < m.n sl.toNat then 1 else 0 := by
  have hp := pl_num (m := m) hn h0 h6
  have := num_facts hn
  have ht : ¬ txtB t = true := by unfold txtB; simp; omega
  unfold errM; rw [hp.1, hp.2.2.1, if_neg ht]; rfl
theorem err_txt {m : Msg} {t sl : Int} (hn : txtB t = true) (h0 : 0 ≤ sl) (h2 : sl < 2) : errM m t sl = chkV (m.s sl.toNat) (mostV t) := by
  have hp := pl_txt (m := m) hn h0 h2
  have := txt_facts hn
  unfold errM; rw [if_neg (by omega), if_pos hn, hp.2.1]
theorem err_list {m : Msg} {sl : Int} : errM m 10 sl = if 64 < m.l.length then 2 else firstE 64 m.l := by
  unfold errM; rw [if_neg (by omega), if_neg (by simp [txtB])]; rfl

set_option maxRecDepth 100000 in
set_option maxHeartbeats 8000000 in
theorem vfits_any (m : Msg) (a : Option Addr) (c : Nat) (nm t sl : Int) (w : World) (hm : okM m) (hl : Tx w (.slice a m.l.length c) m.l)
    (hn : numB t = true → 0 ≤ sl ∧ sl < 6) (ht : txtB t = true → 0 ≤ sl ∧ sl < 2) (h1 : 1 ≤ t) (h10 : t ≤ 10) :
    Calls Tryz.prog 81 #[.agg (msgA m (.slice a m.l.length c)), .agg #[.int .i64 nm, .int .i64 t, .int .i64 sl]] w fun e w' => e = .returned (.int .i64 (errM m t sl)) ∧ Grew w w' := by
  have KM := Lib.hid (fun W => most_any t W)
  have HG := Lib.hid (grew2 w (.cells (msgA m (.slice a m.l.length c)) 29) (.cells #[.int .i64 nm, .int .i64 t, .int .i64 sl] 82))
  have HM := Lib.hid hm
  have HL := Lib.hid hl
  simp only [msgA] at HG ⊢
  clear hm hl
  rcases (show t = 1 ∨ t = 2 ∨ t = 3 ∨ t = 4 ∨ t = 5 ∨ t = 6 ∨ t = 7 ∨ t = 8 ∨ t = 9 ∨ t = 10 by omega) with rfl | rfl | rfl | rfl | rfl | rfl | rfl | rfl | rfl | rfl
  · obtain ⟨h0, h6⟩ := hn rfl
    have E := Lib.hid (err_num (m := m) (t := 1) rfl h0 h6)
    clear hn ht h1 h10
    rcases int6 h0 h6 with rfl | rfl | rfl | rfl | rfl | rfl
    all_goals (
      clear h0 h6
      go_enter Tryz.func81, Tryz.ntmps81
      go_wp2_with fail
      (refine (KM.out _).mono ?_)
      rintro e w1 ⟨rfl, rfl⟩
      go_wp2
      all_goals (
        go_ret
        exact ⟨ret_int (by rw [E.out]; first | rw [if_pos (by first | omega | (simp at *; omega) | simp at *)]; rfl | rw [if_neg (by first | omega | (simp at *; omega) | simp at *)]; rfl), HG.out⟩))
  · obtain ⟨h0, h6⟩ := hn rfl
    have E := Lib.hid (err_num (m := m) (t := 2) rfl h0 h6)
    clear hn ht h1 h10
    rcases int6 h0 h6 with rfl | rfl | rfl | rfl | rfl | rfl
    all_goals (
      clear h0 h6
      go_enter Tryz.func81, Tryz.ntmps81
      go_wp2_with fail
      (refine (KM.out _).mono ?_)
      rintro e w1 ⟨rfl, rfl⟩
      go_wp2
      all_goals (
        go_ret
        exact ⟨ret_int (by rw [E.out]; first | rw [if_pos (by first | omega | (simp at *; omega) | simp at *)]; rfl | rw [if_neg (by first | omega | (simp at *; omega) | simp at *)]; rfl), HG.out⟩))
  · obtain ⟨h0, h6⟩ := hn rfl
    have E := Lib.hid (err_num (m := m) (t := 3) rfl h0 h6)
    clear hn ht h1 h10
    rcases int6 h0 h6 with rfl | rfl | rfl | rfl | rfl | rfl
    all_goals (
      clear h0 h6
      go_enter Tryz.func81, Tryz.ntmps81
      go_wp2_with fail
      (refine (KM.out _).mono ?_)
      rintro e w1 ⟨rfl, rfl⟩
      go_wp2
      all_goals (
        go_ret
        exact ⟨ret_int (by rw [E.out]; first | rw [if_pos (by first | omega | (simp at *; omega) | simp at *)]; rfl | rw [if_neg (by first | omega | (simp at *; omega) | simp at *)]; rfl), HG.out⟩))
  · obtain ⟨h0, h6⟩ := hn rfl
    have E := Lib.hid (err_num (m := m) (t := 4) rfl h0 h6)
    clear hn ht h1 h10
    rcases int6 h0 h6 with rfl | rfl | rfl | rfl | rfl | rfl
    all_goals (
      clear h0 h6
      go_enter Tryz.func81, Tryz.ntmps81
      go_wp2_with fail
      (refine (KM.out _).mono ?_)
      rintro e w1 ⟨rfl, rfl⟩
      go_wp2
      all_goals (
        go_ret
        exact ⟨ret_int (by rw [E.out]; first | rw [if_pos (by first | omega | (simp at *; omega) | simp at *)]; rfl | rw [if_neg (by first | omega | (simp at *; omega) | simp at *)]; rfl), HG.out⟩))
  · obtain ⟨h0, h6⟩ := hn rfl
    have E := Lib.hid (err_num (m := m) (t := 5) rfl h0 h6)
    clear hn ht h1 h10
    rcases int6 h0 h6 with rfl | rfl | rfl | rfl | rfl | rfl
    all_goals (
      clear h0 h6
      go_enter Tryz.func81, Tryz.ntmps81
      go_wp2_with fail
      (refine (KM.out _).mono ?_)
      rintro e w1 ⟨rfl, rfl⟩
      go_wp2
      all_goals (
        go_ret
        exact ⟨ret_int (by rw [E.out]; first | rw [if_pos (by first | omega | (simp at *; omega) | simp at *)]; rfl | rw [if_neg (by first | omega | (simp at *; omega) | simp at *)]; rfl), HG.out⟩))
  · obtain ⟨h0, h6⟩ := hn rfl
    have E := Lib.hid (err_num (m := m) (t := 6) rfl h0 h6)
    clear hn ht h1 h10
    rcases int6 h0 h6 with rfl | rfl | rfl | rfl | rfl | rfl
    all_goals (
      clear h0 h6
      go_enter Tryz.func81, Tryz.ntmps81
      go_wp2_with fail
      (refine (KM.out _).mono ?_)
      rintro e w1 ⟨rfl, rfl⟩
      go_wp2
      all_goals (
        go_ret
        exact ⟨ret_int (by rw [E.out]; first | rw [if_pos (by first | omega | (simp at *; omega) | simp at *)]; rfl | rw [if_neg (by first | omega | (simp at *; omega) | simp at *)]; rfl), HG.out⟩))
  · obtain ⟨h0, h2⟩ := ht rfl
    have E := Lib.hid (err_txt (m := m) (t := 7) rfl h0 h2)
    clear hn ht h1 h10
    rcases (show sl = 0 ∨ sl = 1 by omega) with rfl | rfl
    · clear h0 h2
      have KC := Lib.hid (fun W => ucheck_any (m.s 0) (mostV 7) (by have := HM.out.1 0 (by omega); omega) W)
      go_enter Tryz.func81, Tryz.ntmps81
      go_wp2_with fail
      refine (KM.out _).mono ?_
      rintro e w1 ⟨rfl, rfl⟩
      go_wp2_with fail
      refine (KC.out _).mono ?_
      rintro e w1 ⟨rfl, g1⟩
      go_wp2
      go_ret
      exact ⟨ret_int (by rw [E.out]; rfl), HG.out.trans g1⟩
    · clear h0 h2
      have KC := Lib.hid (fun W => ucheck_any (m.s 1) (mostV 7) (by have := HM.out.1 1 (by omega); omega) W)
      go_enter Tryz.func81, Tryz.ntmps81
      go_wp2_with fail
      refine (KM.out _).mono ?_
      rintro e w1 ⟨rfl, rfl⟩
      go_wp2_with fail
      refine (KC.out _).mono ?_
      rintro e w1 ⟨rfl, g1⟩
      go_wp2
      go_ret
      exact ⟨ret_int (by rw [E.out]; rfl), HG.out.trans g1⟩
  · obtain ⟨h0, h2⟩ := ht rfl
    have E := Lib.hid (err_txt (m := m) (t := 8) rfl h0 h2)
    clear hn ht h1 h10
    rcases (show sl = 0 ∨ sl = 1 by omega) with rfl | rfl
    · clear h0 h2
      have KC := Lib.hid (fun W => ucheck_any (m.s 0) (mostV 8) (by have := HM.out.1 0 (by omega); omega) W)
      go_enter Tryz.func81, Tryz.ntmps81
      go_wp2_with fail
      refine (KM.out _).mono ?_
      rintro e w1 ⟨rfl, rfl⟩
      go_wp2_with fail
      refine (KC.out _).mono ?_
      rintro e w1 ⟨rfl, g1⟩
      go_wp2
      go_ret
      exact ⟨ret_int (by rw [E.out]; rfl), HG.out.trans g1⟩
    · clear h0 h2
      have KC := Lib.hid (fun W => ucheck_any (m.s 1) (mostV 8) (by have := HM.out.1 1 (by omega); omega) W)
      go_enter Tryz.func81, Tryz.ntmps81
      go_wp2_with fail
      refine (KM.out _).mono ?_
      rintro e w1 ⟨rfl, rfl⟩
      go_wp2_with fail
      refine (KC.out _).mono ?_
      rintro e w1 ⟨rfl, g1⟩
      go_wp2
      go_ret
      exact ⟨ret_int (by rw [E.out]; rfl), HG.out.trans g1⟩
  · obtain ⟨h0, h2⟩ := ht rfl
    have E := Lib.hid (err_txt (m := m) (t := 9) rfl h0 h2)
    clear hn ht h1 h10
    rcases (show sl = 0 ∨ sl = 1 by omega) with rfl | rfl
    · clear h0 h2
      have KC := Lib.hid (fun W => ucheck_any (m.s 0) (mostV 9) (by have := HM.out.1 0 (by omega); omega) W)
      go_enter Tryz.func81, Tryz.ntmps81
      go_wp2_with fail
      refine (KM.out _).mono ?_
      rintro e w1 ⟨rfl, rfl⟩
      go_wp2_with fail
      refine (KC.out _).mono ?_
      rintro e w1 ⟨rfl, g1⟩
      go_wp2
      go_ret
      exact ⟨ret_int (by rw [E.out]; rfl), HG.out.trans g1⟩
    · clear h0 h2
      have KC := Lib.hid (fun W => ucheck_any (m.s 1) (mostV 9) (by have := HM.out.1 1 (by omega); omega) W)
      go_enter Tryz.func81, Tryz.ntmps81
      go_wp2_with fail
      refine (KM.out _).mono ?_
      rintro e w1 ⟨rfl, rfl⟩
      go_wp2_with fail
      refine (KC.out _).mono ?_
      rintro e w1 ⟨rfl, g1⟩
      go_wp2
      go_ret
      exact ⟨ret_int (by rw [E.out]; rfl), HG.out.trans g1⟩
  · have E := Lib.hid (err_list (m := m) (sl := sl))
    clear hn ht h1 h10
    obtain ⟨L, hL⟩ : ∃ L, L = m.l := ⟨_, rfl⟩
    rw [← hL] at E HL HG ⊢
    have HLE := Lib.hid hL
    have hm10 : mostV 10 = 64 := rfl
    rw [hm10] at KM
    clear hL hm10
    by_cases h64 : 64 < L.length
    · have z0 : decide ((L.length : Int) > 64) = true := by simp; omega
      go_enter Tryz.func81, Tryz.ntmps81
      go_wp2_with fail
      refine (KM.out _).mono ?_
      rintro e w1 ⟨rfl, rfl⟩
      go_wp2
      go_ret
      exact ⟨ret_int (by rw [E.out, if_pos h64]; rfl), HG.out⟩
    have hz : (L.length : Int) ≤ 64 := by omega
    have H64 := Lib.hid h64
    have z0 : decide ((L.length : Int) > 64) = false := by simp; omega
    clear h64
    go_enter Tryz.func81, Tryz.ntmps81
    go_wp2_with fail
    refine (KM.out _).mono ?_
    rintro e w1 ⟨rfl, rfl⟩
    obtain ⟨W2, hW2⟩ : ∃ W2, W2 = (w.alloc (.cells #[.int .u8 m.k, .int .u64 (m.n 0), .int .u64 (m.n 1), .int .u64 (m.n 2), .int .u64 (m.n 3), .int .u64 (m.n 4), .int .u64 (m.n 5), .string (m.s 0), .string (m.s 1), .slice a L.length c] 29)).alloc (.cells #[.int .i64 nm, .int .i64 10, .int .i64 sl] 82) := ⟨_, rfl⟩
    go_wp2
    rw [← hW2]
    rw [← hW2] at HG
    clear hW2
    go_loopw [51] (fun iv wr => ∃ k : Nat, k ≤ L.length ∧ iv = .int .i64 k ∧ RowKit.Hid (firstE 64 (L.take k) = 0) ∧ Grew w wr) (fun iv _ => L.length - (intOf iv).toNat)
    case atStart => exact ⟨0, Nat.zero_le _, rfl, Lib.hid (by simp [firstE]), HG.out⟩
    case round =>
      obtain ⟨k, hk, rfl, hI, gr⟩ := hrel
      by_cases hlt : k < L.length
      · obtain ⟨a', c', e, -, -, -, hc⟩ := HL.out.open
        cases e
        obtain ⟨b, o, rfl, hcl⟩ := hc (by omega)
        have x0 := (below_ext gr) _ _ (hcl k _ (tx_get L k hlt))
        have KC := Lib.hid (fun W => ucheck_any L[k] 64 (by have := HM.out.2 L[k] (by rw [← HLE.out]; exact List.getElem_mem hlt); omega) W)
        by_cases he : chkV L[k] 64 = 0
        · have HN := Lib.hid (firstE_next hlt hI.out he)
          have HE := Lib.hid he
          have z1 : ((chkV L[k] 64 : Int) != 0) = false := by simp [he]
          generalize chkV L[k] 64 = C at z1 KC
          generalize L[k] = s at x0 KC
          clear hcl hc he HE
          go_wp2_with fail
          refine (KC.out _).mono ?_
          rintro e w1 ⟨rfl, g1⟩
          go_wp2
          go_roundw
          case rel => exact ⟨k + 1, by omega, by go_num, HN, gr.trans g1⟩
          case measure => simp [intOf]; omega
        · have HN := Lib.hid (firstE_at hlt hI.out he)
          have z1 : ((chkV L[k] 64 : Int) != 0) = true := by simp; omega
          generalize chkV L[k] 64 = C at z1 KC HN
          generalize L[k] = s at x0 KC
          clear hcl hc he
          go_wp2_with fail
          refine (KC.out _).mono ?_
          rintro e w1 ⟨rfl, g1⟩
          go_wp2
          go_ret
          exact ⟨ret_int (by rw [E.out, if_neg H64.out, HN.out]), gr.trans g1⟩
      · obtain rfl : k = L.length := by omega
        rw [List.take_length] at hI
        go_wp2
        go_ret
        exact ⟨ret_int (by rw [E.out, if_neg H64.out, hI.out]; rfl), gr⟩
end Go.Proofs.YtbjoohafgkodcaaGreat
namespace Go.Proofs.YtbjoohafgkodcaaGreat
open Go Go.RowKit Go.Shelf

theorem plS_le {m : Msg} (hm : okM m) (t sl : Int) : (plS m t sl).size ≤ 9223372036854775807 := by
  unfold plS; split
  · exact hm.1 _ (by omega)
  · exact Nat.zero_le _
theorem plL_tx {W : World} {m : Msg} {lv : Value} (h : Tx W lv m.l) (t : Int) : Tx W (plLv t lv) (plL m t) := by
  unfold plLv plL; split
  · exact h
  · exact Sl.nil W 1
theorem plL_mem {m : Msg} (hm : okM m) (t : Int) : ∀ s ∈ plL m t, s.size ≤ 9223372036854775807 := by
  unfold plL; split
  · exact hm.2
  · simp
theorem err_1 {m : Msg} {t sl : Int} (h : ((t = 1 ∨ t = 5) ∧ 4294967295 < plN m t sl) ∨ (t = 4 ∧ 1 < plN m t sl)) : errM m t sl = 1 := by unfold errM; rw [if_pos h]
theorem err_2 {m : Msg} {t sl : Int} (h : ¬ (((t = 1 ∨ t = 5) ∧ 4294967295 < plN m t sl) ∨ (t = 4 ∧ 1 < plN m t sl))) (ht : 7 ≤ t ∧ t ≤ 9) : errM m t sl = chkV (plS m t sl) (mostV t) := by
  unfold errM; rw [if_neg h, if_pos (by unfold txtB; simp; omega)]
theorem err_3 {m : Msg} {t sl : Int} (h : ¬ (((t = 1 ∨ t = 5) ∧ 4294967295 < plN m t sl) ∨ (t = 4 ∧ 1 < plN m t sl))) (ht : ¬ (7 ≤ t ∧ t ≤ 9)) : errM m t sl = if 64 < (plL m t).length then 2 else firstE (mostV t) (plL m t) := by
  unfold errM; rw [if_neg h, if_neg (by unfold txtB; simp; omega)]
set_option maxRecDepth 100000 in
set_option maxHeartbeats 4000000 in
theorem one9_t1 (m : Msg) (a : Option Addr) (c : Nat) (nm sl : Int) (w : World) (hg : Grew w ((w.alloc (.cells (msgA m (.slice a m.l.length c)) 29)).alloc (.cells #[.int .i64 nm, .int .i64 1, .int .i64 sl] 82))) :
    Calls Tryz.prog 60 #[.agg (msgA m (.slice a m.l.length c)), .agg #[.int .i64 nm, .int .i64 1, .int .i64 sl]] w fun e w' => e = .returned (.int .i64 (errM m 1 sl)) ∧ Grew w w' := by
  have HG := Lib.hid hg
  clear hg
  simp only [msgA] at HG ⊢
  have KP := Lib.hid (fun W => place_any m a c nm 1 sl W)
  simp only [msgA] at KP
  have KM := Lib.hid (fun W => rmost_any 1 W)
  have E1 := Lib.hid (fun h => err_1 (m := m) (t := 1) (sl := sl) h)
  have E3 := Lib.hid (fun h h2 => err_3 (m := m) (t := 1) (sl := sl) h h2)
  go_enter Tryz.func60, Tryz.ntmps60
  go_wp2_with fail
  refine (KP.out _).mono ?_
  rintro e w1 ⟨rfl, g1⟩
  have x1 := ((Blk.new2 w _ _ _).grew g1).cell 1
  simp only [List.getElem?_toArray, List.getElem?_cons_zero, List.getElem?_cons_succ] at x1
  have HG1 := Lib.hid (HG.out.trans g1)
  generalize plN m 1 sl = N at E1 E3 ⊢
  generalize plS m 1 sl = S
  rw [show plLv 1 (Value.slice a m.l.length c) = .slice none 0 0 from rfl]
  rw [show plL m 1 = [] from rfl] at E3
  clear g1 KP HG
  by_cases hN : 4294967295 < N
  · have z0 : decide ((N : Int) > 4294967295) = true := by simp; omega
    have hv := E1.out (.inl ⟨.inl trivial, hN⟩)
    have HV := Lib.hid hv
    clear hv hN
    go_wp2
    go_ret
    exact ⟨ret_int (by rw [HV.out]; rfl), HG1.out⟩
  · have z0 : decide ((N : Int) > 4294967295) = false := by simp; omega
    have hv := E3.out (by omega) (by omega)
    have HV := Lib.hid hv
    clear hv hN
    go_wp2_with fail
    refine (KM.out _).mono ?_
    rintro e w2 ⟨rfl, rfl⟩
    go_wp2
    go_loop [9] (fun iv => iv = .int .i64 0) (fun _ => 0)
    case atStart => rfl
    case round =>
      obtain rfl := hrel
      go_wp2
      go_ret
      exact ⟨ret_int (by rw [HV.out]; rfl), HG1.out⟩
set_option maxRecDepth 100000 in
set_option maxHeartbeats 4000000 in
theorem one9_t5 (m : Msg) (a : Option Addr) (c : Nat) (nm sl : Int) (w : World) (hg : Grew w ((w.alloc (.cells (msgA m (.slice a m.l.length c)) 29)).alloc (.cells #[.int .i64 nm, .int .i64 5, .int .i64 sl] 82))) :
    Calls Tryz.prog 60 #[.agg (msgA m (.slice a m.l.length c)), .agg #[.int .i64 nm, .int .i64 5, .int .i64 sl]] w fun e w' => e = .returned (.int .i64 (errM m 5 sl)) ∧ Grew w w' := by
  have HG := Lib.hid hg
  clear hg
  simp only [msgA] at HG ⊢
  have KP := Lib.hid (fun W => place_any m a c nm 5 sl W)
  simp only [msgA] at KP
  have KM := Lib.hid (fun W => rmost_any 5 W)
  have E1 := Lib.hid (fun h => err_1 (m := m) (t := 5) (sl := sl) h)
  have E3 := Lib.hid (fun h h2 => err_3 (m := m) (t := 5) (sl := sl) h h2)
  go_enter Tryz.func60, Tryz.ntmps60
  go_wp2_with fail
  refine (KP.out _).mono ?_
  rintro e w1 ⟨rfl, g1⟩
  have x1 := ((Blk.new2 w _ _ _).grew g1).cell 1
  simp only [List.getElem?_toArray, List.getElem?_cons_zero, List.getElem?_cons_succ] at x1
  have HG1 := Lib.hid (HG.out.trans g1)
  generalize plN m 5 sl = N at E1 E3 ⊢
  generalize plS m 5 sl = S
  rw [show plLv 5 (Value.slice a m.l.length c) = .slice none 0 0 from rfl]
  rw [show plL m 5 = [] from rfl] at E3
  clear g1 KP HG
  by_cases hN : 4294967295 < N
  · have z0 : decide ((N : Int) > 4294967295) = true := by simp; omega
    have hv := E1.out (.inl ⟨.inr trivial, hN⟩)
    have HV := Lib.hid hv
    clear hv hN
    go_wp2
    go_ret
    exact ⟨ret_int (by rw [HV.out]; rfl), HG1.out⟩
  · have z0 : decide ((N : Int) > 4294967295) = false := by simp; omega
    have hv := E3.out (by omega) (by omega)
    have HV := Lib.hid hv
    clear hv hN
    go_wp2_with fail
    refine (KM.out _).mono ?_
    rintro e w2 ⟨rfl, rfl⟩
    go_wp2
    go_loop [9] (fun iv => iv = .int .i64 0) (fun _ => 0)
    case atStart => rfl
    case round =>
      obtain rfl := hrel
      go_wp2
      go_ret
      exact ⟨ret_int (by rw [HV.out]; rfl), HG1.out⟩
set_option maxRecDepth 100000 in
set_option maxHeartbeats 4000000 in
theorem one9_t4 (m : Msg) (a : Option Addr) (c : Nat) (nm sl : Int) (w : World) (hg : Grew w ((w.alloc (.cells (msgA m (.slice a m.l.length c)) 29)).alloc (.cells #[.int .i64 nm, .int .i64 4, .int .i64 sl] 82))) :
    Calls Tryz.prog 60 #[.agg (msgA m (.slice a m.l.length c)), .agg #[.int .i64 nm, .int .i64 4, .int .i64 sl]] w fun e w' => e = .returned (.int .i64 (errM m 4 sl)) ∧ Grew w w' := by
  have HG := Lib.hid hg
  clear hg
  simp only [msgA] at HG ⊢
  have KP := Lib.hid (fun W => place_any m a c nm 4 sl W)
  simp only [msgA] at KP
  have KM := Lib.hid (fun W => rmost_any 4 W)
  have E1 := Lib.hid (fun h => err_1 (m := m) (t := 4) (sl := sl) h)
  have E3 := Lib.hid (fun h h2 => err_3 (m := m) (t := 4) (sl := sl) h h2)
  go_enter Tryz.func60, Tryz.ntmps60
  go_wp2_with fail
  refine (KP.out _).mono ?_
  rintro e w1 ⟨rfl, g1⟩
  have x1 := ((Blk.new2 w _ _ _).grew g1).cell 1
  simp only [List.getElem?_toArray, List.getElem?_cons_zero, List.getElem?_cons_succ] at x1
  have HG1 := Lib.hid (HG.out.trans g1)
  generalize plN m 4 sl = N at E1 E3 ⊢
  generalize plS m 4 sl = S
  rw [show plLv 4 (Value.slice a m.l.length c) = .slice none 0 0 from rfl]
  rw [show plL m 4 = [] from rfl] at E3
  clear g1 KP HG
  by_cases hN : 1 < N
  · have z0 : decide ((N : Int) > 1) = true := by simp; omega
    have hv := E1.out (.inr ⟨trivial, hN⟩)
    have HV := Lib.hid hv
    clear hv hN
    go_wp2
    go_ret
    exact ⟨ret_int (by rw [HV.out]; rfl), HG1.out⟩
  · have z0 : decide ((N : Int) > 1) = false := by simp; omega
    have hv := E3.out (by omega) (by omega)
    have HV := Lib.hid hv
    clear hv hN
    go_wp2_with fail
    refine (KM.out _).mono ?_
    rintro e w2 ⟨rfl, rfl⟩
    go_wp2
    go_loop [9] (fun iv => iv = .int .i64 0) (fun _ => 0)
    case atStart => rfl
    case round =>
      obtain rfl := hrel
      go_wp2
      go_ret
      exact ⟨ret_int (by rw [HV.out]; rfl), HG1.out⟩
set_option maxRecDepth 100000 in
set_option maxHeartbeats 8000000 in
theorem one9_any (m : Msg) (a : Option Addr) (c : Nat) (nm t sl : Int) (w : World) (hm : okM m) (hl : Tx w (.slice a m.l.length c) m.l) :
    Calls Tryz.prog 60 #[.agg (msgA m (.slice a m.l.length c)), .agg #[.int .i64 nm, .int .i64 t, .int .i64 sl]] w fun e w' => e = .returned (.int .i64 (errM m t sl)) ∧ Grew w w' := by
  have KS := Lib.hid (fun W => rcheck_any (plS m t sl) (mostV t) (by have := plS_le hm t sl; omega) W)
  have HG := Lib.hid (grew2 w (.cells (msgA m (.slice a m.l.length c)) 29) (.cells #[.int .i64 nm, .int .i64 t, .int .i64 sl] 82))
  have hx := plL_tx hl t
  have HMEM := Lib.hid (plL_mem hm t)
  obtain ⟨a', c', hlv⟩ := tx_len hx
  rw [hlv] at hx
  have hnm : ∀ T : Int, T = t → True := fun _ _ => trivial
  clear hnm hm hl
  simp only [msgA] at HG ⊢
  by_cases h1 : t = 1
  · subst h1
    have h4 : True := trivial
    have h5 : True := trivial
    have h1 : True := trivial
    exact one9_t1 m a c nm sl w HG.out
  by_cases h5 : t = 5
  · subst h5
    exact one9_t5 m a c nm sl w HG.out
  by_cases h4 : t = 4
  · subst h4
    exact one9_t4 m a c nm sl w HG.out
  have hno : ¬ (((t = 1 ∨ t = 5) ∧ 4294967295 < plN m t sl) ∨ (t = 4 ∧ 1 < plN m t sl)) := by
    rintro (⟨h | h, -⟩ | ⟨h, -⟩)
    · exact h1 h
    · exact h5 h
    · exact h4 h
  have E2 := Lib.hid (fun h2 => err_2 (m := m) (t := t) (sl := sl) hno h2)
  have E3 := Lib.hid (fun h2 => err_3 (m := m) (t := t) (sl := sl) hno h2)
  have q1 : (t == 1) = false := by simpa using h1
  have q5 : (t == 5) = false := by simpa using h5
  have q4 : (t == 4) = false := by simpa using h4
  have KP := Lib.hid (fun W => place_any m a c nm t sl W)
  have KM := Lib.hid (fun W => rmost_any t W)
  simp only [msgA] at KP
  have HX := Lib.hid hx
  have HLV := Lib.hid hlv
  clear hno h1 h5 h4 hx hlv
  by_cases h7 : 7 ≤ t ∧ t ≤ 9
  · obtain ⟨h7, h9⟩ := h7
    have hv := E2.out ⟨h7, h9⟩
    have HV := Lib.hid hv
    clear hv E2 E3
    go_enter Tryz.func60, Tryz.ntmps60
    go_wp2_with fail
    refine (KP.out _).mono ?_
    rintro e w1 ⟨rfl, g1⟩
    rw [HLV.out]
    have x1 := ((Blk.new2 w _ _ _).grew g1).cell 1
    simp only [List.getElem?_toArray, List.getElem?_cons_zero, List.getElem?_cons_succ] at x1
    have HG1 := Lib.hid (HG.out.trans g1)
    generalize plN m t sl = N
    generalize plS m t sl = S at KS HV ⊢
    generalize plL m t = L at HX HMEM ⊢
    clear g1 KP HLV HG
    go_wp2_with fail
    refine (KM.out _).mono ?_
    rintro e w2 ⟨rfl, rfl⟩
    go_wp2_with fail
    refine (KS.out _).mono ?_
    rintro e w2 ⟨rfl, rfl⟩
    go_wp2
    go_ret
    exact ⟨ret_int (by rw [HV.out]), HG1.out⟩
  · have hv := E3.out h7
    have HV := Lib.hid hv
    have h7' : t < 7 ∨ 9 < t := by omega
    clear hv E2 E3 h7
    rcases h7' with h7 | h7
    all_goals (
      go_enter Tryz.func60, Tryz.ntmps60
      go_wp2_with fail
      (refine (KP.out _).mono ?_)
      rintro e w1 ⟨rfl, g1⟩
      rw [HLV.out]
      have x1 := ((Blk.new2 w _ _ _).grew g1).cell 1
      simp only [List.getElem?_toArray, List.getElem?_cons_zero, List.getElem?_cons_succ] at x1
      have HG1 := Lib.hid (HG.out.trans g1)
      generalize plN m t sl = N
      generalize plS m t sl = S
      generalize plL m t = L at HX HMEM HV ⊢
      generalize mostV t = M at KM HV ⊢
      clear g1 KP HLV HG KS
      go_wp2_with fail
      (refine (KM.out _).mono ?_)
      rintro e w2 ⟨rfl, rfl⟩
      by_cases h64 : 64 < L.length
      · have z0 : decide ((L.length : Int) > 64) = true := by simp; omega
        go_wp2
        go_ret
        exact ⟨ret_int (by rw [HV.out, if_pos h64]; rfl), HG1.out⟩
      have hz : (L.length : Int) ≤ 64 := by omega
      have H64 := Lib.hid h64
      have z0 : decide ((L.length : Int) > 64) = false := by simp; omega
      clear h64
      go_wp2
      go_loop [9] (fun iv => ∃ k : Nat, k ≤ L.length ∧ iv = .int .i64 k ∧ RowKit.Hid (firstE M (L.take k) = 0)) (fun iv => L.length - (intOf iv).toNat)
      case atStart => exact ⟨0, Nat.zero_le _, rfl, Lib.hid (by simp [firstE])⟩
      case round =>
        obtain ⟨k, hk, rfl, hI⟩ := hrel
        by_cases hlt : k < L.length
        · obtain ⟨a2, c2, e, -, -, -, hc⟩ := HX.out.open
          cases e
          obtain ⟨b, o, rfl, hcl⟩ := hc (by omega)
          have x0 := (below_ext HG1.out) _ _ (hcl k _ (tx_get L k hlt))
          have KC := Lib.hid (fun W => rcheck_any L[k] M (by have := HMEM.out L[k] (List.getElem_mem hlt); omega) W)
          by_cases he : chkV L[k] M = 0
          · have HN := Lib.hid (firstE_next hlt hI.out he)
            have z1 : ((chkV L[k] M : Int) != 0) = false := by simp [he]
            generalize chkV L[k] M = C at z1 KC
            generalize L[k] = s at x0 KC
            clear hcl hc he
            go_wp2_with fail
            (refine (KC.out _).mono ?_)
            rintro e w2 ⟨rfl, rfl⟩
            go_wp2
            go_round
            case rel => exact ⟨k + 1, by omega, by go_num, HN⟩
            case measure => simp [intOf]; omega
          · have HN := Lib.hid (firstE_at hlt hI.out he)
            have z1 : ((chkV L[k] M : Int) != 0) = true := by simp; omega
            generalize chkV L[k] M = C at z1 KC HN
            generalize L[k] = s at x0 KC
            clear hcl hc he
            go_wp2_with fail
            (refine (KC.out _).mono ?_)
            rintro e w2 ⟨rfl, rfl⟩
            go_wp2
            go_ret
            exact ⟨ret_int (by rw [HV.out, if_neg H64.out, HN.out]), HG1.out⟩
        · obtain rfl : k = L.length := by omega
          rw [List.take_length] at hI
          go_wp2
          go_ret
          exact ⟨ret_int (by rw [HV.out, if_neg H64.out, hI.out]; rfl), HG1.out⟩)
end Go.Proofs.YtbjoohafgkodcaaGreat
namespace Go.Proofs.YtbjoohafgkodcaaGreat
open Go Go.RowKit Go.Shelf

set_option maxRecDepth 100000 in
set_option maxHeartbeats 8000000 in
theorem clean_any (m : Msg) (lv : Value) (ver : Int) (w : World) (hl : Tx w lv m.l) (hlen : m.l.length ≤ 1000000000) :
    Calls Tryz.prog 82 #[.agg (msgA m lv), .int .i64 ver] w fun e w' => ∃ v, e = .returned (.agg (msgA (cleanM m (ofKind m.k (rowsIn ver))) v)) ∧ OwnT w' w.heap.size v (cleanM m (ofKind m.k (rowsIn ver))).l ∧ Grew w w' ∧ (lv = .slice none 0 0 → v = .slice none 0 0) := by
  have HG := Lib.hid (grew2 w (.cells (msgA m lv) 29) (.cells zMsg 29))
  have K1 : RowKit.Hid (Blk ((w.alloc (.cells (msgA m lv) 29)).alloc (.cells zMsg 29)) w.heap.size 29 (msgA m lv)) := Lib.hid ((Blk.new _ _ _).alloc _)
  have K2 : RowKit.Hid (Blk ((w.alloc (.cells (msgA m lv) 29)).alloc (.cells zMsg 29)) (w.heap.size + 1) 29 zMsg) := Lib.hid (Blk.new2 _ _ _ _)
  have KO := Lib.hid (fun W => of_any m.k ver W)
  have hok := fun r (h : r ∈ ofKind m.k (rowsIn ver)) => of_ok h
  have hle := ofKind_le m.k ver
  generalize ofKind m.k (rowsIn ver) = L at KO hok hle ⊢
  obtain ⟨aa, ca, rfl⟩ := tx_len hl
  have HL := Lib.hid hl
  have HOK := Lib.hid hok
  simp only [msgA, zMsg] at HG K1 K2 ⊢
  clear hl hok
  go_enter Tryz.func82, Tryz.ntmps82
  go_wp2_with fail
  refine (KO.out _).mono ?_
  rintro e w1 ⟨v1, rfl, r1, g1⟩
  obtain ⟨a1, c1, rfl, -, -, -, hc1⟩ := (Sl.of_own r1).open
  have k1 := K1.out.grew g1
  have k2 := K2.out.grew g1
  have hg1 := HG.out.trans g1
  obtain ⟨gN, hgN⟩ : ∃ gN, gN = w1.heap.size := ⟨_, rfl⟩
  have hs1 := g1.size
  simp only [World.size_alloc] at hs1
  have hN0 : Blk (w1.alloc (.cells #[.bool false, .bool false, .bool false, .bool false, .bool false, .bool false] 162)) gN 162 (nbA []) := Blk.at hgN
  have hT0 : Blk ((w1.alloc (.cells #[.bool false, .bool false, .bool false, .bool false, .bool false, .bool false] 162)).alloc (.cells #[.bool false, .bool false] 163)) (gN + 1) 163 (sbA []) := by rw [hgN]; exact Blk.new2 _ _ _ _
  have hN1 := hN0.alloc (.cells #[.bool false, .bool false] 163)
  have gb0 : Below gN w1 ((w1.alloc (.cells #[.bool false, .bool false, .bool false, .bool false, .bool false, .bool false] 162)).alloc (.cells #[.bool false, .bool false] 163)) := by rw [hgN]; exact grew2 _ _ _
  have HT0 := Lib.hid hT0
  have HN1 := Lib.hid hN1
  have GB0 := Lib.hid gb0
  have QK1 := Lib.hid k1
  have QK2 := Lib.hid k2
  have HG1 := Lib.hid hg1
  have HGN := Lib.hid hgN
  have HS1 := Lib.hid hs1
  have HC1 := Lib.hid hc1
  have R1 := Lib.hid r1
  have hli : (L.length : Int) ≤ 40 := by omega
  clear hT0 hN0 hN1 gb0 k1 k2 hg1 hgN hs1 hc1 r1 K1 K2 HG g1 KO
  go_wp2
  rw [← HGN.out]
  go_loopw [9, 26] (fun lb iv wr => ∃ i : Nat, i ≤ L.length ∧ iv = .int .i64 i ∧ lb = .bool (hasL (L.take i)) ∧ Blk wr gN 162 (nbA (L.take i)) ∧ Blk wr (gN + 1) 163 (sbA (L.take i)) ∧ Below gN w1 wr) (fun _ iv _ => L.length - (intOf iv).toNat)
  case atStart => exact ⟨0, Nat.zero_le _, rfl, rfl, HN1.out, HT0.out, GB0.out⟩
  case round =>
    obtain ⟨i, hi, rfl, rfl, hbn, hbt, hB⟩ := hrel
    have hgr : Grew w1 wr := by show Below w1.heap.size w1 wr; rw [← HGN.out]; exact hB
    have hsz : gN + 1 < wr.heap.size := hbt.lt
    by_cases hlt : i < L.length
    · obtain ⟨b, o, rfl, hcl⟩ := HC1.out (by omega)
      have hf := fun j hj => flat_get (f := specV) (k := 3) (fun _ => rfl) L i hlt j hj
      have x0 := (below_ext hgr) _ _ (hcl _ _ (hf 0 (by omega)))
      have x1 := (below_ext hgr) _ _ (hcl _ _ (hf 1 (by omega)))
      have x2 := (below_ext hgr) _ _ (hcl _ _ (hf 2 (by omega)))
      simp only [Nat.add_zero, ← Nat.add_assoc] at x0 x1 x2
      have hrk := HOK.out L[i] (List.getElem_mem hlt)
      have htk := List.take_succ_eq_append_getElem hlt
      generalize L[i] = r at x0 x1 x2 hrk htk
      obtain ⟨kd, nm, ty, sl, si⟩ := r
      simp only [rTyp, rSlot] at hrk
      have HTK := Lib.hid htk
      have ga := grew_alloc wr (.cells #[.int .i64 nm, .int .i64 ty, .int .i64 sl] 82)
      have hBa : Below gN w1 (wr.alloc (.cells #[.int .i64 nm, .int .i64 ty, .int .i64 sl] 82)) := hB.alloc (by omega) _
      have hna := hbn.grew ga
      have hta := hbt.grew ga
      have HNA := Lib.hid hna
      have HTA := Lib.hid hta
      have HBA := Lib.hid hBa
      have KN := Lib.hid (fun W => numbers_any (ty : Int) W)
      have KT := Lib.hid (fun W => texts_any (ty : Int) W)
      have z0 : (0 : Int) ≤ (sl : Int) := by omega
      have zi : (i : Int) < (L.length : Int) := by omega
      clear hf hcl htk ga hBa hbn hbt hB hsz
      by_cases h6 : ty ≤ 6
      · have hs6 : sl < 6 := hrk.2.2.1 h6
        have z1 : (sl : Int) < 6 := by omega
        have hn1 : numB (ty : Int) = true := by unfold numB; simp; omega
        rw [hn1] at KN
        have hset := nbA_set (L.take i) (kd, nm, ty, sl, si) h6 hs6
        have hkp := sbA_keep (L.take i) (kd, nm, ty, sl, si) (by simp only [rTyp]; omega)
        have hls := hasL_snoc (L.take i) (kd, nm, ty, sl, si)
        rw [show decide (10 ≤ rTyp (kd, nm, ty, sl, si)) = false by simp [rTyp]; omega, Bool.or_false] at hls
        rw [← HTK.out] at hset hkp hls
        have s1 := hna.set sl (.bool true)
        rw [hset] at s1
        have s2 := hta.other ⟨gN, sl, none⟩ (.bool true) (by simp)
        rw [← hkp] at s2
        have s3 := HBA.out.setCell (p := ⟨gN, sl, none⟩) (Nat.le_refl _) (.bool true)
        obtain ⟨u, c0⟩ : ∃ u, (nbA (L.take i))[sl]? = some u := ⟨_, Array.getElem?_eq_getElem (by simp [nbA]; omega)⟩
        have c1 := hna.cell sl
        rw [c0] at c1
        have f1 := hna.frozen sl
        have S1 := Lib.hid s1
        have S2 := Lib.hid s2
        have S3 := Lib.hid s3
        have HLS := Lib.hid hls
        clear hset hkp hls s1 s2 s3 c0 hna hta hn1 HTK hs6 h6 hrk
        go_wp2_with fail
        refine (KN.out _).mono ?_
        rintro e w2 ⟨rfl, rfl⟩
        go_wp2
        go_roundw
        case rel => exact ⟨i + 1, by omega, by go_num, by rw [HLS.out], S1.out, S2.out, S3.out⟩
        case measure => simp [intOf]; omega
      by_cases h9 : ty ≤ 9
      · have hs2 : sl < 2 := hrk.2.2.2 (by omega) h9
        have z1 : (sl : Int) < 2 := by omega
        have hn1 : numB (ty : Int) = false := by unfold numB; simp; omega
        have hn2 : txtB (ty : Int) = true := by unfold txtB; simp; omega
        rw [hn1] at KN
        rw [hn2] at KT
        have hset := sbA_set (L.take i) (kd, nm, ty, sl, si) (by simp only [rTyp]; omega) h9 hs2
        have hkp := nbA_keep (L.take i) (kd, nm, ty, sl, si) (by simp only [rTyp]; omega)
        have hls := hasL_snoc (L.take i) (kd, nm, ty, sl, si)
        rw [show decide (10 ≤ rTyp (kd, nm, ty, sl, si)) = false by simp [rTyp]; omega, Bool.or_false] at hls
        rw [← HTK.out] at hset hkp hls
        have s1 := hta.set sl (.bool true)
        rw [hset] at s1
        have s2 := hna.other ⟨gN + 1, sl, none⟩ (.bool true) (by simp)
        rw [← hkp] at s2
        have s3 := HBA.out.setCell (p := ⟨gN + 1, sl, none⟩) (Nat.le_succ _) (.bool true)
        obtain ⟨u, c0⟩ : ∃ u, (sbA (L.take i))[sl]? = some u := ⟨_, Array.getElem?_eq_getElem (by simp [sbA]; omega)⟩
        have c1 := hta.cell sl
        rw [c0] at c1
        have f1 := hta.frozen sl
        have S1 := Lib.hid s1
        have S2 := Lib.hid s2
        have S3 := Lib.hid s3
        have HLS := Lib.hid hls
        clear hset hkp hls s1 s2 s3 c0 hna hta hn1 hn2 HTK hs2 h6 h9 hrk
        go_wp2_with fail
        refine (KN.out _).mono ?_
        rintro e w2 ⟨rfl, rfl⟩
        go_wp2_with fail
        refine (KT.out _).mono ?_
        rintro e w2 ⟨rfl, rfl⟩
        go_wp2
        go_roundw
        case rel => exact ⟨i + 1, by omega, by go_num, by rw [HLS.out], S2.out, S1.out, S3.out⟩
        case measure => simp [intOf]; omega
      · have hn1 : numB (ty : Int) = false := by unfold numB; simp; omega
        have hn2 : txtB (ty : Int) = false := by unfold txtB; simp; omega
        rw [hn1] at KN
        rw [hn2] at KT
        have hkp1 := nbA_keep (L.take i) (kd, nm, ty, sl, si) (by simp only [rTyp]; omega)
        have hkp2 := sbA_keep (L.take i) (kd, nm, ty, sl, si) (by simp only [rTyp]; omega)
        have hls := hasL_snoc (L.take i) (kd, nm, ty, sl, si)
        rw [show decide (10 ≤ rTyp (kd, nm, ty, sl, si)) = true by simp [rTyp]; omega, Bool.or_true] at hls
        rw [← HTK.out] at hkp1 hkp2 hls
        rw [← hkp1] at hna
        rw [← hkp2] at hta
        have S1 := Lib.hid hna
        have S2 := Lib.hid hta
        have HLS := Lib.hid hls
        clear hkp1 hkp2 hls hna hta hn1 hn2 HTK h6 h9 hrk
        go_wp2_with fail
        refine (KN.out _).mono ?_
        rintro e w2 ⟨rfl, rfl⟩
        go_wp2_with fail
        refine (KT.out _).mono ?_
        rintro e w2 ⟨rfl, rfl⟩
        go_wp2
        go_roundw
        case rel => exact ⟨i + 1, by omega, by go_num, by rw [HLS.out], S1.out, S2.out, HBA.out⟩
        case measure => simp [intOf]; omega
    · obtain rfl : i = L.length := by omega
      rw [List.take_length] at hbn hbt
      have q1 := QK1.out.grew hgr
      have q2 := QK2.out.grew hgr
      have hgw : Grew w wr := HG1.out.trans hgr
      have Q1 := Lib.hid q1
      have Q2 := Lib.hid q2
      have HGW := Lib.hid hgw
      have HBN := Lib.hid hbn
      have HBT := Lib.hid hbt
      have KC := Lib.hid (copy_any m _ wr (HL.out.grew hgw) hlen)
      have HSZ := Lib.hid hsz
      simp only [msgA] at KC
      have hlb : hasL (L.take L.length) = hasL L := by rw [List.take_length]
      rw [hlb]
      obtain ⟨lb, hlq⟩ : ∃ lb, lb = hasL L := ⟨_, rfl⟩
      rw [← hlq]
      have HLQ := Lib.hid hlq
      clear hlq
      obtain ⟨wo, hwo⟩ : ∃ wo, wo = wr := ⟨_, rfl⟩
      rw [← hwo] at Q1 Q2 HGW HBN HBT KC HSZ ⊢
      clear q1 q2 hgw hbn hbt hgr hB hsz hwo hlb QK1 QK2 HG1 HC1 HOK HN1 HT0 GB0
      go_upto_region 14 with (fail)
      refine wp_region_lit ?_
      refine wpList_load_row rfl 29 _ rfl w.heap.size rfl 29 _ (0, 0) _ Q1.out Tryz.underlying29 rfl (by kernel_rfl) ?_
      go_wp2_with fail
      refine KC.out.mono ?_
      rintro e w3 ⟨v3, rfl, r3, g3, n3⟩
      have HN3 := Lib.hid n3
      clear n3
      obtain ⟨a3, c3, rfl⟩ := tx_len (Sl.of_own r3)
      obtain ⟨gO, hgO⟩ : ∃ gO, gO = w3.heap.size := ⟨_, rfl⟩
      have b1 := HBN.out.grew g3
      have b2 := HBT.out.grew g3
      have e2 := Q2.out.grew g3
      have ga := grew_alloc w3 (.cells (msgA m (.slice a3 m.l.length c3)) 29)
      have bo : Blk (w3.alloc (.cells (msgA m (.slice a3 m.l.length c3)) 29)) gO 29 (msgA m (.slice a3 m.l.length c3)) := Blk.at hgO
      replace b1 := b1.grew ga
      replace b2 := b2.grew ga
      replace e2 := e2.grew ga
      have r4 := own_grew r3 ga
      have hgf : Grew w (w3.alloc (.cells (msgA m (.slice a3 m.l.length c3)) 29)) := (HGW.out.trans g3).trans ga
      have hgl : w.heap.size + 1 < gO := by rw [hgO]; have := (Q2.out.grew g3).lt; omega
      have hor : ∀ g, (Value.slice a3 m.l.length c3).ownBlock = some g → g < gO := fun g h => by rw [hgO]; exact (own_lt r3 g h).2
      have HGE : RowKit.Hid (w.heap.size + 1 < wo.heap.size) := Lib.hid Q2.out.lt
      have hgo2 : gN + 1 < gO := by rw [hgO]; have := HSZ.out; have := g3.size; omega
      simp only [msgA] at ga b1 b2 e2 bo r4 hgf
      obtain ⟨W, hW⟩ : ∃ W, W = w3.alloc (.cells #[.int .u8 m.k, .int .u64 (m.n 0), .int .u64 (m.n 1), .int .u64 (m.n 2), .int .u64 (m.n 3), .int .u64 (m.n 4), .int .u64 (m.n 5), .string (m.s 0), .string (m.s 1), .slice a3 m.l.length c3] 29) := ⟨_, rfl⟩
      rw [← hW] at b1 b2 e2 bo r4 hgf
      go_upto_region 15 with (fail)
      rw [← hW, ← hgO]
      have u0 := b1.cell 0
      have u1 := b1.cell 1
      have u2 := b1.cell 2
      have u3 := b1.cell 3
      have u4 := b1.cell 4
      have u5 := b1.cell 5
      simp only [nbA, List.getElem?_toArray, List.getElem?_cons_zero, List.getElem?_cons_succ] at u0 u1 u2 u3 u4 u5
      have HB2 := Lib.hid b2
      have HE2 := Lib.hid e2
      have HBO := Lib.hid bo
      have HR4 := Lib.hid r4
      have HGF := Lib.hid hgf
      have HOR := Lib.hid hor
      clear b1 b2 e2 bo r4 hgf hor ga r3 g3 hW hgO Q1 Q2 HGW HBN HBT KC HSZ hle
      go_wp2
      go_loopw [48] (fun iv wr => ∃ k : Nat, k ≤ 6 ∧ iv = .int .i64 k ∧ Blk wr gO 29 (numsA m.k (cutN m L k) m.s (.slice a3 m.l.length c3)) ∧ Below gO W wr) (fun iv _ => 6 - (intOf iv).toNat)
      case atStart => exact ⟨0, by omega, rfl, by rw [cutN_0]; exact HBO.out, Below.refl _ _⟩
      case round =>
        obtain ⟨k, hk, rfl, hbo, hB⟩ := hrel
        by_cases hlt6 : k < 6
        · have hix := fun W => idx6 (hasN L 0) (hasN L 1) (hasN L 2) (hasN L 3) (hasN L 4) (hasN L 5) (hasN L) rfl rfl rfl rfl rfl rfl k hlt6 W
          cases hh : hasN L k with
          | true =>
            rw [hh] at hix
            have hkp := cutN_keep m L k hh
            rw [← hkp] at hbo
            have HBO2 := Lib.hid hbo
            clear hh hkp hbo u0 u1 u2 u3 u4 u5
            go_wp2
            go_roundw
            case rel => exact ⟨k + 1, by omega, by go_num, HBO2.out, hB⟩
            case measure => simp [intOf]; omega
          | false =>
            rw [hh] at hix
            have hst := cutN_set m L k hlt6 hh m.s (.slice a3 m.l.length c3)
            have s1 := hbo.set (1 + k) (.int .u64 0)
            rw [hst] at s1
            have s2 := hB.setCell (p := ⟨gO, 1 + k, none⟩) (Nat.le_refl _) (.int .u64 0)
            obtain ⟨u, c0⟩ : ∃ u, (numsA m.k (cutN m L k) m.s (.slice a3 m.l.length c3))[1 + k]? = some u := ⟨_, Array.getElem?_eq_getElem (by simp [numsA]; omega)⟩
            have x1 := hbo.cell (1 + k)
            rw [c0] at x1
            have f1 := hbo.frozen (1 + k)
            have S1 := Lib.hid s1
            have S2 := Lib.hid s2
            have z0 : (0 : Int) ≤ (k : Int) := by omega
            have z1 : (k : Int) < 6 := by omega
            clear hh hst s1 s2 c0 hbo hB u0 u1 u2 u3 u4 u5
            go_wp2
            go_roundw
            case rel => exact ⟨k + 1, by omega, by go_num, S1.out, S2.out⟩
            case measure => simp [intOf]; omega
        · obtain rfl : k = 6 := by omega
          rw [cutN_all] at hbo
          have t0 := (HB2.out.below hB (by omega)).cell 0
          have t1 := (HB2.out.below hB (by omega)).cell 1
          simp only [sbA, List.getElem?_toArray, List.getElem?_cons_zero, List.getElem?_cons_succ] at t0 t1
          have HBO2 := Lib.hid hbo
          have HB1 := Lib.hid hB
          obtain ⟨wp, hwp⟩ : ∃ wp, wp = wr := ⟨_, rfl⟩
          rw [← hwp] at HBO2 HB1 t0 t1 ⊢
          clear hbo hB hwp u0 u1 u2 u3 u4 u5
          go_wp2
          go_loopw [59] (fun iv wr => ∃ k : Nat, k ≤ 2 ∧ iv = .int .i64 k ∧ Blk wr gO 29 (numsA m.k (cleanM m L).n (cutS m L k) (.slice a3 m.l.length c3)) ∧ Below gO W wr) (fun iv _ => 2 - (intOf iv).toNat)
          case atStart => exact ⟨0, by omega, rfl, by rw [cutS_0]; exact HBO2.out, HB1.out⟩
          case round =>
            obtain ⟨k, hk, rfl, hbo, hB⟩ := hrel
            by_cases hlt2 : k < 2
            · have hix := fun W => idx2 (hasS L 0) (hasS L 1) (hasS L) rfl rfl k hlt2 W
              cases hh : hasS L k with
              | true =>
                rw [hh] at hix
                have hkp := cutS_keep m L k hh
                rw [← hkp] at hbo
                have HBO3 := Lib.hid hbo
                clear hh hkp hbo t0 t1
                go_wp2
                go_roundw
                case rel => exact ⟨k + 1, by omega, by go_num, HBO3.out, hB⟩
                case measure => simp [intOf]; omega
              | false =>
                rw [hh] at hix
                have hst := cutS_set m L k hlt2 hh (cleanM m L).n (.slice a3 m.l.length c3)
                have s1 := hbo.set (7 + k) (.string ⟨#[]⟩)
                rw [hst] at s1
                have s2 := hB.setCell (p := ⟨gO, 7 + k, none⟩) (Nat.le_refl _) (.string ⟨#[]⟩)
                obtain ⟨u, c0⟩ : ∃ u, (numsA m.k (cleanM m L).n (cutS m L k) (.slice a3 m.l.length c3))[7 + k]? = some u := ⟨_, Array.getElem?_eq_getElem (by simp [numsA]; omega)⟩
                have x1 := hbo.cell (7 + k)
                rw [c0] at x1
                have f1 := hbo.frozen (7 + k)
                have S1 := Lib.hid s1
                have S2 := Lib.hid s2
                have z0 : (0 : Int) ≤ (k : Int) := by omega
                have z1 : (k : Int) < 2 := by omega
                clear hh hst s1 s2 c0 hbo hB t0 t1
                go_wp2
                go_roundw
                case rel => exact ⟨k + 1, by omega, by go_num, S1.out, S2.out⟩
                case measure => simp [intOf]; omega
            · obtain rfl : k = 2 := by omega
              rw [cutS_all] at hbo
              have e2 := HE2.out.below hB (by omega)
              have hgw : Grew w wr := Below.trans HGF.out (hB.mono (by omega))
              cases lb with
              | true =>
                have HBF := Lib.hid hbo
                have HEF := Lib.hid e2
                have rf := own_block HR4.out fun g hg => hB.block g (HOR.out g hg)
                have HRF := Lib.hid rf
                have HGWF := Lib.hid hgw
                clear hbo e2 rf hgw hB t0 t1
                go_upto_region 29 with (fail)
                refine wp_region_lit ?_
                refine wpList_load_row rfl 29 _ rfl gO rfl 29 _ (0, 0) _ HBF.out Tryz.underlying29 rfl (by kernel_rfl) ?_
                refine wpList_store_row rfl 29 _ _ rfl (w.heap.size + 1) _ rfl rfl 29 _ HEF.out (by kernel_rfl) rfl (by simp [numsA, Value.oneCell']) ?_
                refine wpList_nil ?_
                go_wp2_with fail
                refine bodyPost_ret (results_cell_row rfl _ _ (w.heap.size + 1) 29 _ (0, 0) _ (by kernel_rfl) (HEF.out.row _) Tryz.underlying29 rfl (by kernel_rfl)) rfl ?_
                refine ⟨.slice a3 m.l.length c3, rfl, ?_, below_setRow HGWF.out (by omega) _, HN3.out⟩
                have hcl : (cleanM m L).l = m.l := by simp only [cleanM]; rw [← HLQ.out]; rfl
                rw [hcl]
                exact own_mono (own_block HRF.out fun g hg => setRow_other _ _ _ _ (fun e => by have h1 := (own_lt HR4.out g hg).1; subst e; exact absurd HGE.out (by omega))) (by have := HGE.out; omega)
              | false =>
                have s1 := hbo.set 9 (.slice none 0 0)
                rw [show (numsA m.k (cleanM m L).n (cleanM m L).s (.slice a3 m.l.length c3)).setIfInBounds 9 (.slice none 0 0) = numsA m.k (cleanM m L).n (cleanM m L).s (.slice none 0 0) from rfl] at s1
                have s2 := e2.other ⟨gO, 9, none⟩ (.slice none 0 0) (by simp; omega)
                have s3 : Grew w (wr.setCell ⟨gO, 9, none⟩ (.slice none 0 0)) := grew_set hgw (by omega) _
                have x9 := hbo.cell 9
                have f9 := hbo.frozen 9
                simp only [numsA, List.getElem?_toArray, List.getElem?_cons_zero, List.getElem?_cons_succ] at x9
                have HBF := Lib.hid s1
                have HEF := Lib.hid s2
                have HGWF := Lib.hid s3
                clear hbo e2 hgw hB t0 t1 s1 s2 s3
                go_upto_region 29 with (fail)
                refine wp_region_lit ?_
                refine wpList_load_row rfl 29 _ rfl gO rfl 29 _ (0, 0) _ HBF.out Tryz.underlying29 rfl (by kernel_rfl) ?_
                refine wpList_store_row rfl 29 _ _ rfl (w.heap.size + 1) _ rfl rfl 29 _ HEF.out (by kernel_rfl) rfl (by simp [numsA, Value.oneCell']) ?_
                refine wpList_nil ?_
                go_wp2_with fail
                refine bodyPost_ret (results_cell_row rfl _ _ (w.heap.size + 1) 29 _ (0, 0) _ (by kernel_rfl) (HEF.out.row _) Tryz.underlying29 rfl (by kernel_rfl)) rfl ?_
                refine ⟨.slice none 0 0, rfl, ?_, below_setRow HGWF.out (by omega) _, fun _ => rfl⟩
                have hcl : (cleanM m L).l = [] := by simp only [cleanM]; rw [← HLQ.out]; rfl
                rw [hcl]
                exact ownT_nil _ _
end Go.Proofs.YtbjoohafgkodcaaGreat
