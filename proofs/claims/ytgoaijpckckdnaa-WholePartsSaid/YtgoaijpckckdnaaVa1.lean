/- Package value: numbers, texts, Default, Int: contracts. -/
import Derived.Test.YtgoaijpckckdnaaVam
namespace Go.Proofs.Ytgoaijpckckdnaa
open Go Go.RowKit Go.Shelf

set_option maxHeartbeats 1000000 in
theorem numbers_any (t : Int) (w : World) : Calls Try.prog 127 #[.int .i64 t] w fun e w' => e = .returned (.bool (numB t)) ∧ w = w' := by
  by_cases h1 : 1 ≤ t
  · by_cases h2 : t ≤ 6
    · have e : numB t = true := by simp [numB, h1, h2]
      have E := Lib.hid e
      clear e
      go_enter Try.func127, Try.ntmps127
      go_wp2
      go_ret
      exact ⟨by rw [E.out]; rfl, rfl⟩
    · have e : numB t = false := by simp [numB, h2]
      have E := Lib.hid e
      clear e
      go_enter Try.func127, Try.ntmps127
      go_wp2
      go_ret
      exact ⟨by rw [E.out]; rfl, rfl⟩
  · have e : numB t = false := by simp [numB, h1]
    have E := Lib.hid e
    clear e
    go_enter Try.func127, Try.ntmps127
    go_wp2
    go_ret
    exact ⟨by rw [E.out]; rfl, rfl⟩
set_option maxHeartbeats 1000000 in
theorem texts_any (t : Int) (w : World) : Calls Try.prog 128 #[.int .i64 t] w fun e w' => e = .returned (.bool (txtB t)) ∧ w = w' := by
  by_cases h1 : 7 ≤ t
  · by_cases h2 : t ≤ 9
    · have e : txtB t = true := by simp [txtB, h1, h2]
      have E := Lib.hid e
      clear e
      go_enter Try.func128, Try.ntmps128
      go_wp2
      go_ret
      exact ⟨by rw [E.out]; rfl, rfl⟩
    · have e : txtB t = false := by simp [txtB, h2]
      have E := Lib.hid e
      clear e
      go_enter Try.func128, Try.ntmps128
      go_wp2
      go_ret
      exact ⟨by rw [E.out]; rfl, rfl⟩
  · have e : txtB t = false := by simp [txtB, h1]
    have E := Lib.hid e
    clear e
    go_enter Try.func128, Try.ntmps128
    go_wp2
    go_ret
    exact ⟨by rw [E.out]; rfl, rfl⟩
theorem num_or {t : Int} (h : numB t = true) : t = 1 ∨ t = 2 ∨ t = 3 ∨ t = 4 ∨ t = 5 ∨ t = 6 := by unfold numB at h; simp at h; omega
theorem ibeq0 (n : Nat) : ((n : Int) == 0) = (n == 0) := by rw [Bool.eq_iff_iff]; simp
theorem grew2 (w : World) (o1 o2 : Obj) : Grew w ((w.alloc o1).alloc o2) := (grew_alloc _ _).trans (grew_alloc _ _)
set_option maxRecDepth 100000 in
set_option maxHeartbeats 4000000 in
theorem default_any (m : Msg) (a : Option Addr) (c : Nat) (nm t sl : Int) (w : World) :
    Calls Try.prog 79 #[.agg (msgA m (.slice a m.l.length c)), .agg #[.int .i64 nm, .int .i64 t, .int .i64 sl]] w fun e w' => e = .returned (.bool (defB m t sl)) ∧ Grew w w' := by
  simp only [msgA]
  by_cases hN : numB t = true ∧ 0 ≤ sl ∧ sl < 6
  · obtain ⟨hn, h0, h6⟩ := hN
    have e := def_num (m := m) hn h0 h6
    have E := Lib.hid e
    have HN := Lib.hid hn
    clear e hn
    rcases int6 h0 h6 with rfl | rfl | rfl | rfl | rfl | rfl
    all_goals (
      clear h0 h6
      go_enter Try.func79, Try.ntmps79
      go_wp2_with fail
      (refine (numbers_any t _).mono ?_)
      rw [HN.out]
      rintro e w1 ⟨rfl, rfl⟩
      go_wp2
      go_ret
      exact ⟨ret_bool (by rw [E.out, ← ibeq0]; rfl), grew2 _ _ _⟩)
  by_cases hT : txtB t = true ∧ 0 ≤ sl ∧ sl < 2
  · obtain ⟨hn, h0, h2⟩ := hT
    have e := def_txt (m := m) hn h0 h2
    have hf : numB t = false := by unfold txtB at hn; unfold numB; simp at hn ⊢; omega
    have E := Lib.hid e
    have HN := Lib.hid hn
    have HF := Lib.hid hf
    clear e hn hf hN
    rcases (show sl = 0 ∨ sl = 1 by omega) with rfl | rfl
    all_goals (
      clear h0 h2
      go_enter Try.func79, Try.ntmps79
      go_wp2_with fail
      (refine (numbers_any t _).mono ?_)
      rw [HF.out]
      rintro e w1 ⟨rfl, rfl⟩
      go_wp2_with fail
      (refine (texts_any t _).mono ?_)
      rw [HN.out]
      rintro e w1 ⟨rfl, rfl⟩
      go_wp2
      go_ret
      exact ⟨ret_bool (by rw [E.out]; rfl), grew2 _ _ _⟩)
  have key : ∀ (b1 b2 : Bool), numB t = b1 → txtB t = b2 → (b1 = true → sl < 0 ∨ 6 ≤ sl) → (b2 = true → sl < 0 ∨ 2 ≤ sl) → True := fun _ _ _ _ _ _ => trivial
  clear key
  have hN' : numB t = true → sl < 0 ∨ 6 ≤ sl := fun h => by
    by_cases h0 : 0 ≤ sl
    · right; by_cases h6 : sl < 6
      · exact absurd ⟨h, h0, h6⟩ hN
      · omega
    · left; omega
  have hT' : txtB t = true → sl < 0 ∨ 2 ≤ sl := fun h => by
    by_cases h0 : 0 ≤ sl
    · right; by_cases h6 : sl < 2
      · exact absurd ⟨h, h0, h6⟩ hT
      · omega
    · left; omega
  have hd := def_other (m := m) hN hT
  have hl := def_list (m := m) (sl := sl)
  have HD := Lib.hid hd
  have HL := Lib.hid hl
  clear hN hT hd hl
  by_cases h10 : t = 10
  · subst h10
    have f1 : numB 10 = false := rfl
    have f2 : txtB 10 = false := rfl
    clear hN' hT' HD
    go_enter Try.func79, Try.ntmps79
    go_wp2_with fail
    refine (numbers_any 10 _).mono ?_
    rw [f1]
    rintro e w1 ⟨rfl, rfl⟩
    go_wp2_with fail
    refine (texts_any 10 _).mono ?_
    rw [f2]
    rintro e w1 ⟨rfl, rfl⟩
    go_wp2
    go_ret
    exact ⟨ret_bool (by rw [HL.out, ← ibeq0]), grew2 _ _ _⟩
  have ht : (t == 10) = false := by simpa using h10
  have HD2 := Lib.hid (HD.out h10)
  clear HD HL h10
  cases hn : numB t with
  | true =>
    have f2 : txtB t = false := by unfold numB at hn; unfold txtB; simp at hn ⊢; omega
    have HN := Lib.hid hn
    have HT := Lib.hid f2
    have hc := hN' hn
    clear hN' hT' hn f2
    rcases hc with hc | hc
    all_goals (
      go_enter Try.func79, Try.ntmps79
      go_wp2_with fail
      (refine (numbers_any t _).mono ?_)
      rw [HN.out]
      rintro e w1 ⟨rfl, rfl⟩
      go_wp2_with fail
      (refine (texts_any t _).mono ?_)
      rw [HT.out]
      rintro e w1 ⟨rfl, rfl⟩
      go_wp2
      go_ret
      exact ⟨ret_bool (by rw [HD2.out]), grew2 _ _ _⟩)
  | false =>
    have HN := Lib.hid hn
    clear hN' hn
    cases hx : txtB t with
    | true =>
      have HT := Lib.hid hx
      have hc := hT' hx
      clear hT' hx
      rcases hc with hc | hc
      all_goals (
        go_enter Try.func79, Try.ntmps79
        go_wp2_with fail
        (refine (numbers_any t _).mono ?_)
        rw [HN.out]
        rintro e w1 ⟨rfl, rfl⟩
        go_wp2_with fail
        (refine (texts_any t _).mono ?_)
        rw [HT.out]
        rintro e w1 ⟨rfl, rfl⟩
        go_wp2
        go_ret
        exact ⟨ret_bool (by rw [HD2.out]), grew2 _ _ _⟩)
    | false =>
      have HT := Lib.hid hx
      clear hT' hx
      go_enter Try.func79, Try.ntmps79
      go_wp2_with fail
      refine (numbers_any t _).mono ?_
      rw [HN.out]
      rintro e w1 ⟨rfl, rfl⟩
      go_wp2_with fail
      refine (texts_any t _).mono ?_
      rw [HT.out]
      rintro e w1 ⟨rfl, rfl⟩
      go_wp2
      go_ret
      exact ⟨ret_bool (by rw [HD2.out]), grew2 _ _ _⟩
theorem intV_of {m : Msg} {sl : Int} (h0 : 0 ≤ sl) (h6 : sl < 6) : intV m sl = wrap64 (m.n sl.toNat) := by unfold intV; rw [if_pos ⟨h0, h6⟩]
theorem intV_out {m : Msg} {sl : Int} (h : sl < 0 ∨ 6 ≤ sl) : intV m sl = 0 := by unfold intV; rw [if_neg (by omega)]
set_option maxRecDepth 100000 in
set_option maxHeartbeats 4000000 in
theorem vint_any (m : Msg) (a : Option Addr) (c : Nat) (sl : Int) (w : World) :
    Calls Try.prog 81 #[.agg (msgA m (.slice a m.l.length c)), .int .i64 sl] w fun e w' => e = .returned (.int .i64 (intV m sl)) ∧ Grew w w' := by
  simp only [msgA]
  by_cases h : sl < 0 ∨ 6 ≤ sl
  · have E := Lib.hid (intV_out (m := m) h)
    rcases h with h | h
    all_goals (
      go_enter Try.func81, Try.ntmps81
      go_wp2
      go_ret
      exact ⟨ret_int (by rw [E.out]), grew_alloc _ _⟩)
  · have h0 : 0 ≤ sl := by omega
    have h6 : sl < 6 := by omega
    have E := Lib.hid (intV_of (m := m) h0 h6)
    clear h
    rcases int6 h0 h6 with rfl | rfl | rfl | rfl | rfl | rfl
    all_goals (
      clear h0 h6
      go_enter Try.func81, Try.ntmps81
      go_wp2
      go_ret
      exact ⟨ret_int (by rw [E.out]; rfl), grew_alloc _ _⟩)
end Go.Proofs.Ytgoaijpckckdnaa
