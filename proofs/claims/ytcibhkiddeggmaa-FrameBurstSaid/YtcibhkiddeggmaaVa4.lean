/- value.fits, rescriptref09.one: contracts. -/
import Derived.Test.YtcibhkiddeggmaaVa3
import Derived.Test.YtcibhkiddeggmaaUtr
namespace Go.Proofs.Ytcibhkiddeggmaa
open Go Go.RowKit Go.Shelf

/-- texts are not longer than a machine's memory -/
def okM (m : Msg) : Prop := (∀ i, i < 2 → (m.s i).size ≤ 9223372036854775807) ∧ ∀ s ∈ m.l, s.size ≤ 9223372036854775807
/-- what is wrong with the first text that isn't one -/
def firstE (most : Int) : List ByteArray → Nat
  | [] => 0
  | s :: l => if chkV s most = 0 then firstE most l else chkV s most
def errM (m : Msg) (t sl : Int) : Nat :=
  if ((t = 1 ∨ t = 5) ∧ 4294967295 < plN m t sl) ∨ (t = 4 ∧ 1 < plN m t sl) then 1
  else if txtB t = true then chkV (plS m t sl) (mostV t)
  else if 64 < (plL m t).length then 2 else firstE (mostV t) (plL m t)
theorem firstE_app {most : Int} {l : List ByteArray} {k : Nat} (h : firstE most (l.take k) = 0) : firstE most l = firstE most (l.drop k) := by
  induction k generalizing l with
  | zero => simp
  | succ k ih =>
    cases l with
    | nil => simp
    | cons s l =>
      rw [List.take_succ_cons] at h
      rw [List.drop_succ_cons]
      have e1 : firstE most (s :: l.take k) = if chkV s most = 0 then firstE most (l.take k) else chkV s most := rfl
      have e2 : firstE most (s :: l) = if chkV s most = 0 then firstE most l else chkV s most := rfl
      rw [e1] at h
      rw [e2]
      by_cases c : chkV s most = 0
      · rw [if_pos c] at h ⊢; exact ih h
      · rw [if_neg c] at h; exact absurd h c
theorem firstE_snoc {most : Int} {l : List ByteArray} {s : ByteArray} (h : firstE most l = 0) (hs : chkV s most = 0) : firstE most (l ++ [s]) = 0 := by
  induction l with
  | nil => simp [firstE, hs]
  | cons x l ih =>
    unfold firstE at h
    rw [List.cons_append]
    unfold firstE
    by_cases c : chkV x most = 0
    · rw [if_pos c] at h ⊢; exact ih h
    · rw [if_neg c] at h; exact absurd h c
theorem firstE_at {most : Int} {l : List ByteArray} {k : Nat} (hk : k < l.length) (h : firstE most (l.take k) = 0) (hs : chkV l[k] most ≠ 0) : firstE most l = chkV l[k] most := by
  rw [firstE_app h, List.drop_eq_getElem_cons hk]
  unfold firstE; rw [if_neg hs]
theorem firstE_next {most : Int} {l : List ByteArray} {k : Nat} (hk : k < l.length) (h : firstE most (l.take k) = 0) (hs : chkV l[k] most = 0) : firstE most (l.take (k + 1)) = 0 := by
  rw [List.take_succ_eq_append_getElem hk]; exact firstE_snoc h hs
theorem chkV_le (s : ByteArray) (most : Int) : chkV s most ≤ 9 := by unfold chkV; repeat' split
                                                                     all_goals omega
theorem err_num {m : Msg} {t sl : Int} (hn : numB t = true) (h0 : 0 ≤ sl) (h6 : sl < 6) : errM m t sl = if (t = 1 ∨ t = 5) ∧ 4294967295 < m.n sl.toNat ∨ t = 4 ∧ 1 < m.n sl.toNat then 1 else 0 := by
  have hp := pl_num (m := m) hn h0 h6
  have := num_facts hn
  have ht : ¬ txtB t = true := by unfold txtB; simp; omega
  unfold errM; rw [hp.1, hp.2.2.1, if_neg ht]; rfl
theorem err_txt {m : Msg} {t sl : Int} (hn : txtB t = true) (h0 : 0 ≤ sl) (h2 : sl < 2) : errM m t sl = chkV (m.s sl.toNat) (mostV t) := by
  have hp := pl_txt (m := m) hn h0 h2
  have := txt_facts hn
  unfold errM; rw [if_neg (by omega), if_pos hn, hp.2.1]
theorem err_list {m : Msg} {sl : Int} : errM m 10 sl = if 64 < m.l.length then 2 else firstE 64 m.l := by
  unfold errM; rw [if_neg (by omega), if_neg (by simp [txtB])]; rfl

set_option maxRecDepth 100000 in
set_option maxHeartbeats 8000000 in
theorem vfits_any (m : Msg) (a : Option Addr) (c : Nat) (nm t sl : Int) (w : World) (hm : okM m) (hl : Tx w (.slice a m.l.length c) m.l)
    (hn : numB t = true → 0 ≤ sl ∧ sl < 6) (ht : txtB t = true → 0 ≤ sl ∧ sl < 2) (h1 : 1 ≤ t) (h10 : t ≤ 10) :
    Calls Try.prog 49 #[.agg (msgA m (.slice a m.l.length c)), .agg #[.int .i64 nm, .int .i64 t, .int .i64 sl]] w fun e w' => e = .returned (.int .i64 (errM m t sl)) ∧ Grew w w' := by
  have KM := Lib.hid (fun W => most_any t W)
  have HG := Lib.hid (grew2 w (.cells (msgA m (.slice a m.l.length c)) 44) (.cells #[.int .i64 nm, .int .i64 t, .int .i64 sl] 55))
  have HM := Lib.hid hm
  have HL := Lib.hid hl
  simp only [msgA] at HG ⊢
  clear hm hl
  rcases (show t = 1 ∨ t = 2 ∨ t = 3 ∨ t = 4 ∨ t = 5 ∨ t = 6 ∨ t = 7 ∨ t = 8 ∨ t = 9 ∨ t = 10 by omega) with rfl | rfl | rfl | rfl | rfl | rfl | rfl | rfl | rfl | rfl
  · obtain ⟨h0, h6⟩ := hn rfl
    have E := Lib.hid (err_num (m := m) (t := 1) rfl h0 h6)
    clear hn ht h1 h10
    rcases int6 h0 h6 with rfl | rfl | rfl | rfl | rfl | rfl
    all_goals (
      clear h0 h6
      go_enter Try.func49, Try.ntmps49
      go_wp2_with fail
      (refine (KM.out _).mono ?_)
      rintro e w1 ⟨rfl, rfl⟩
      go_wp2
      all_goals (
        go_ret
        exact ⟨ret_int (by rw [E.out]; first | rw [if_pos (by first | omega | (simp at *; omega) | simp at *)]; rfl | rw [if_neg (by first | omega | (simp at *; omega) | simp at *)]; rfl), HG.out⟩))
  · obtain ⟨h0, h6⟩ := hn rfl
    have E := Lib.hid (err_num (m := m) (t := 2) rfl h0 h6)
    clear hn ht h1 h10
    rcases int6 h0 h6 with rfl | rfl | rfl | rfl | rfl | rfl
    all_goals (
      clear h0 h6
      go_enter Try.func49, Try.ntmps49
      go_wp2_with fail
      (refine (KM.out _).mono ?_)
      rintro e w1 ⟨rfl, rfl⟩
      go_wp2
      all_goals (
        go_ret
        exact ⟨ret_int (by rw [E.out]; first | rw [if_pos (by first | omega | (simp at *; omega) | simp at *)]; rfl | rw [if_neg (by first | omega | (simp at *; omega) | simp at *)]; rfl), HG.out⟩))
  · obtain ⟨h0, h6⟩ := hn rfl
    have E := Lib.hid (err_num (m := m) (t := 3) rfl h0 h6)
    clear hn ht h1 h10
    rcases int6 h0 h6 with rfl | rfl | rfl | rfl | rfl | rfl
    all_goals (
      clear h0 h6
      go_enter Try.func49, Try.ntmps49
      go_wp2_with fail
      (refine (KM.out _).mono ?_)
      rintro e w1 ⟨rfl, rfl⟩
      go_wp2
      all_goals (
        go_ret
        exact ⟨ret_int (by rw [E.out]; first | rw [if_pos (by first | omega | (simp at *; omega) | simp at *)]; rfl | rw [if_neg (by first | omega | (simp at *; omega) | simp at *)]; rfl), HG.out⟩))
  · obtain ⟨h0, h6⟩ := hn rfl
    have E := Lib.hid (err_num (m := m) (t := 4) rfl h0 h6)
    clear hn ht h1 h10
    rcases int6 h0 h6 with rfl | rfl | rfl | rfl | rfl | rfl
    all_goals (
      clear h0 h6
      go_enter Try.func49, Try.ntmps49
      go_wp2_with fail
      (refine (KM.out _).mono ?_)
      rintro e w1 ⟨rfl, rfl⟩
      go_wp2
      all_goals (
        go_ret
        exact ⟨ret_int (by rw [E.out]; first | rw [if_pos (by first | omega | (simp at *; omega) | simp at *)]; rfl | rw [if_neg (by first | omega | (simp at *; omega) | simp at *)]; rfl), HG.out⟩))
  · obtain ⟨h0, h6⟩ := hn rfl
    have E := Lib.hid (err_num (m := m) (t := 5) rfl h0 h6)
    clear hn ht h1 h10
    rcases int6 h0 h6 with rfl | rfl | rfl | rfl | rfl | rfl
    all_goals (
      clear h0 h6
      go_enter Try.func49, Try.ntmps49
      go_wp2_with fail
      (refine (KM.out _).mono ?_)
      rintro e w1 ⟨rfl, rfl⟩
      go_wp2
      all_goals (
        go_ret
        exact ⟨ret_int (by rw [E.out]; first | rw [if_pos (by first | omega | (simp at *; omega) | simp at *)]; rfl | rw [if_neg (by first | omega | (simp at *; omega) | simp at *)]; rfl), HG.out⟩))
  · obtain ⟨h0, h6⟩ := hn rfl
    have E := Lib.hid (err_num (m := m) (t := 6) rfl h0 h6)
    clear hn ht h1 h10
    rcases int6 h0 h6 with rfl | rfl | rfl | rfl | rfl | rfl
    all_goals (
      clear h0 h6
      go_enter Try.func49, Try.ntmps49
      go_wp2_with fail
      (refine (KM.out _).mono ?_)
      rintro e w1 ⟨rfl, rfl⟩
      go_wp2
      all_goals (
        go_ret
        exact ⟨ret_int (by rw [E.out]; first | rw [if_pos (by first | omega | (simp at *; omega) | simp at *)]; rfl | rw [if_neg (by first | omega | (simp at *; omega) | simp at *)]; rfl), HG.out⟩))
  · obtain ⟨h0, h2⟩ := ht rfl
    have E := Lib.hid (err_txt (m := m) (t := 7) rfl h0 h2)
    clear hn ht h1 h10
    rcases (show sl = 0 ∨ sl = 1 by omega) with rfl | rfl
    · clear h0 h2
      have KC := Lib.hid (fun W => ucheck_any (m.s 0) (mostV 7) (by have := HM.out.1 0 (by omega); omega) W)
      go_enter Try.func49, Try.ntmps49
      go_wp2_with fail
      refine (KM.out _).mono ?_
      rintro e w1 ⟨rfl, rfl⟩
      go_wp2_with fail
      refine (KC.out _).mono ?_
      rintro e w1 ⟨rfl, g1⟩
      go_wp2
      go_ret
      exact ⟨ret_int (by rw [E.out]; rfl), HG.out.trans g1⟩
    · clear h0 h2
      have KC := Lib.hid (fun W => ucheck_any (m.s 1) (mostV 7) (by have := HM.out.1 1 (by omega); omega) W)
      go_enter Try.func49, Try.ntmps49
      go_wp2_with fail
      refine (KM.out _).mono ?_
      rintro e w1 ⟨rfl, rfl⟩
      go_wp2_with fail
      refine (KC.out _).mono ?_
      rintro e w1 ⟨rfl, g1⟩
      go_wp2
      go_ret
      exact ⟨ret_int (by rw [E.out]; rfl), HG.out.trans g1⟩
  · obtain ⟨h0, h2⟩ := ht rfl
    have E := Lib.hid (err_txt (m := m) (t := 8) rfl h0 h2)
    clear hn ht h1 h10
    rcases (show sl = 0 ∨ sl = 1 by omega) with rfl | rfl
    · clear h0 h2
      have KC := Lib.hid (fun W => ucheck_any (m.s 0) (mostV 8) (by have := HM.out.1 0 (by omega); omega) W)
      go_enter Try.func49, Try.ntmps49
      go_wp2_with fail
      refine (KM.out _).mono ?_
      rintro e w1 ⟨rfl, rfl⟩
      go_wp2_with fail
      refine (KC.out _).mono ?_
      rintro e w1 ⟨rfl, g1⟩
      go_wp2
      go_ret
      exact ⟨ret_int (by rw [E.out]; rfl), HG.out.trans g1⟩
    · clear h0 h2
      have KC := Lib.hid (fun W => ucheck_any (m.s 1) (mostV 8) (by have := HM.out.1 1 (by omega); omega) W)
      go_enter Try.func49, Try.ntmps49
      go_wp2_with fail
      refine (KM.out _).mono ?_
      rintro e w1 ⟨rfl, rfl⟩
      go_wp2_with fail
      refine (KC.out _).mono ?_
      rintro e w1 ⟨rfl, g1⟩
      go_wp2
      go_ret
      exact ⟨ret_int (by rw [E.out]; rfl), HG.out.trans g1⟩
  · obtain ⟨h0, h2⟩ := ht rfl
    have E := Lib.hid (err_txt (m := m) (t := 9) rfl h0 h2)
    clear hn ht h1 h10
    rcases (show sl = 0 ∨ sl = 1 by omega) with rfl | rfl
    · clear h0 h2
      have KC := Lib.hid (fun W => ucheck_any (m.s 0) (mostV 9) (by have := HM.out.1 0 (by omega); omega) W)
      go_enter Try.func49, Try.ntmps49
      go_wp2_with fail
      refine (KM.out _).mono ?_
      rintro e w1 ⟨rfl, rfl⟩
      go_wp2_with fail
      refine (KC.out _).mono ?_
      rintro e w1 ⟨rfl, g1⟩
      go_wp2
      go_ret
      exact ⟨ret_int (by rw [E.out]; rfl), HG.out.trans g1⟩
    · clear h0 h2
      have KC := Lib.hid (fun W => ucheck_any (m.s 1) (mostV 9) (by have := HM.out.1 1 (by omega); omega) W)
      go_enter Try.func49, Try.ntmps49
      go_wp2_with fail
      refine (KM.out _).mono ?_
      rintro e w1 ⟨rfl, rfl⟩
      go_wp2_with fail
      refine (KC.out _).mono ?_
      rintro e w1 ⟨rfl, g1⟩
      go_wp2
      go_ret
      exact ⟨ret_int (by rw [E.out]; rfl), HG.out.trans g1⟩
  · have E := Lib.hid (err_list (m := m) (sl := sl))
    clear hn ht h1 h10
    obtain ⟨L, hL⟩ : ∃ L, L = m.l := ⟨_, rfl⟩
    rw [← hL] at E HL HG ⊢
    have HLE := Lib.hid hL
    have hm10 : mostV 10 = 64 := rfl
    rw [hm10] at KM
    clear hL hm10
    by_cases h64 : 64 < L.length
    · have z0 : decide ((L.length : Int) > 64) = true := by simp; omega
      go_enter Try.func49, Try.ntmps49
      go_wp2_with fail
      refine (KM.out _).mono ?_
      rintro e w1 ⟨rfl, rfl⟩
      go_wp2
      go_ret
      exact ⟨ret_int (by rw [E.out, if_pos h64]; rfl), HG.out⟩
    have hz : (L.length : Int) ≤ 64 := by omega
    have H64 := Lib.hid h64
    have z0 : decide ((L.length : Int) > 64) = false := by simp; omega
    clear h64
    go_enter Try.func49, Try.ntmps49
    go_wp2_with fail
    refine (KM.out _).mono ?_
    rintro e w1 ⟨rfl, rfl⟩
    obtain ⟨W2, hW2⟩ : ∃ W2, W2 = (w.alloc (.cells #[.int .u8 m.k, .int .u64 (m.n 0), .int .u64 (m.n 1), .int .u64 (m.n 2), .int .u64 (m.n 3), .int .u64 (m.n 4), .int .u64 (m.n 5), .string (m.s 0), .string (m.s 1), .slice a L.length c] 44)).alloc (.cells #[.int .i64 nm, .int .i64 10, .int .i64 sl] 55) := ⟨_, rfl⟩
    go_wp2
    rw [← hW2]
    rw [← hW2] at HG
    clear hW2
    go_loopw [51] (fun iv wr => ∃ k : Nat, k ≤ L.length ∧ iv = .int .i64 k ∧ RowKit.Hid (firstE 64 (L.take k) = 0) ∧ Grew w wr) (fun iv _ => L.length - (intOf iv).toNat)
    case atStart => exact ⟨0, Nat.zero_le _, rfl, Lib.hid (by simp [firstE]), HG.out⟩
    case round =>
      obtain ⟨k, hk, rfl, hI, gr⟩ := hrel
      by_cases hlt : k < L.length
      · obtain ⟨a', c', e, -, -, -, hc⟩ := HL.out.open
        cases e
        obtain ⟨b, o, rfl, hcl⟩ := hc (by omega)
        have x0 := (below_ext gr) _ _ (hcl k _ (tx_get L k hlt))
        have KC := Lib.hid (fun W => ucheck_any L[k] 64 (by have := HM.out.2 L[k] (by rw [← HLE.out]; exact List.getElem_mem hlt); omega) W)
        by_cases he : chkV L[k] 64 = 0
        · have HN := Lib.hid (firstE_next hlt hI.out he)
          have HE := Lib.hid he
          have z1 : ((chkV L[k] 64 : Int) != 0) = false := by simp [he]
          generalize chkV L[k] 64 = C at z1 KC
          generalize L[k] = s at x0 KC
          clear hcl hc he HE
          go_wp2_with fail
          refine (KC.out _).mono ?_
          rintro e w1 ⟨rfl, g1⟩
          go_wp2
          go_roundw
          case rel => exact ⟨k + 1, by omega, by go_num, HN, gr.trans g1⟩
          case measure => simp [intOf]; omega
        · have HN := Lib.hid (firstE_at hlt hI.out he)
          have z1 : ((chkV L[k] 64 : Int) != 0) = true := by simp; omega
          generalize chkV L[k] 64 = C at z1 KC HN
          generalize L[k] = s at x0 KC
          clear hcl hc he
          go_wp2_with fail
          refine (KC.out _).mono ?_
          rintro e w1 ⟨rfl, g1⟩
          go_wp2
          go_ret
          exact ⟨ret_int (by rw [E.out, if_neg H64.out, HN.out]), gr.trans g1⟩
      · obtain rfl : k = L.length := by omega
        rw [List.take_length] at hI
        go_wp2
        go_ret
        exact ⟨ret_int (by rw [E.out, if_neg H64.out, hI.out]; rfl), gr⟩
end Go.Proofs.Ytcibhkiddeggmaa
