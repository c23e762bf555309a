/- rescriptref09.one: contract. -/
import Derived.Test.YtgoaijpckckdnaaVa4
namespace Go.Proofs.Ytgoaijpckckdnaa
open Go Go.RowKit Go.Shelf

theorem plS_le {m : Msg} (hm : okM m) (t sl : Int) : (plS m t sl).size ≤ 9223372036854775807 := by
  unfold plS; split
  · exact hm.1 _ (by omega)
  · exact Nat.zero_le _
theorem plL_tx {W : World} {m : Msg} {lv : Value} (h : Tx W lv m.l) (t : Int) : Tx W (plLv t lv) (plL m t) := by
  unfold plLv plL; split
  · exact h
  · exact Sl.nil W 1
theorem plL_mem {m : Msg} (hm : okM m) (t : Int) : ∀ s ∈ plL m t, s.size ≤ 9223372036854775807 := by
  unfold plL; split
  · exact hm.2
  · simp
theorem err_1 {m : Msg} {t sl : Int} (h : ((t = 1 ∨ t = 5) ∧ 4294967295 < plN m t sl) ∨ (t = 4 ∧ 1 < plN m t sl)) : errM m t sl = 1 := by unfold errM; rw [if_pos h]
theorem err_2 {m : Msg} {t sl : Int} (h : ¬ (((t = 1 ∨ t = 5) ∧ 4294967295 < plN m t sl) ∨ (t = 4 ∧ 1 < plN m t sl))) (ht : 7 ≤ t ∧ t ≤ 9) : errM m t sl = chkV (plS m t sl) (mostV t) := by
  unfold errM; rw [if_neg h, if_pos (by unfold txtB; simp; omega)]
theorem err_3 {m : Msg} {t sl : Int} (h : ¬ (((t = 1 ∨ t = 5) ∧ 4294967295 < plN m t sl) ∨ (t = 4 ∧ 1 < plN m t sl))) (ht : ¬ (7 ≤ t ∧ t ≤ 9)) : errM m t sl = if 64 < (plL m t).length then 2 else firstE (mostV t) (plL m t) := by
  unfold errM; rw [if_neg h, if_neg (by unfold txtB; simp; omega)]
set_option maxRecDepth 100000 in
set_option maxHeartbeats 4000000 in
theorem one9_t1 (m : Msg) (a : Option Addr) (c : Nat) (nm sl : Int) (w : World) (hg : Grew w ((w.alloc (.cells (msgA m (.slice a m.l.length c)) 57)).alloc (.cells #[.int .i64 nm, .int .i64 1, .int .i64 sl] 63))) :
    Calls Try.prog 123 #[.agg (msgA m (.slice a m.l.length c)), .agg #[.int .i64 nm, .int .i64 1, .int .i64 sl]] w fun e w' => e = .returned (.int .i64 (errM m 1 sl)) ∧ Grew w w' := by
  have HG := Lib.hid hg
  clear hg
  simp only [msgA] at HG ⊢
  have KP := Lib.hid (fun W => place_any m a c nm 1 sl W)
  simp only [msgA] at KP
  have KM := Lib.hid (fun W => rmost_any 1 W)
  have E1 := Lib.hid (fun h => err_1 (m := m) (t := 1) (sl := sl) h)
  have E3 := Lib.hid (fun h h2 => err_3 (m := m) (t := 1) (sl := sl) h h2)
  go_enter Try.func123, Try.ntmps123
  go_wp2_with fail
  refine (KP.out _).mono ?_
  rintro e w1 ⟨rfl, g1⟩
  have x1 := ((Blk.new2 w _ _ _).grew g1).cell 1
  simp only [List.getElem?_toArray, List.getElem?_cons_zero, List.getElem?_cons_succ] at x1
  have HG1 := Lib.hid (HG.out.trans g1)
  generalize plN m 1 sl = N at E1 E3 ⊢
  generalize plS m 1 sl = S
  rw [show plLv 1 (Value.slice a m.l.length c) = .slice none 0 0 from rfl]
  rw [show plL m 1 = [] from rfl] at E3
  clear g1 KP HG
  by_cases hN : 4294967295 < N
  · have z0 : decide ((N : Int) > 4294967295) = true := by simp; omega
    have hv := E1.out (.inl ⟨.inl trivial, hN⟩)
    have HV := Lib.hid hv
    clear hv hN
    go_wp2
    go_ret
    exact ⟨ret_int (by rw [HV.out]; rfl), HG1.out⟩
  · have z0 : decide ((N : Int) > 4294967295) = false := by simp; omega
    have hv := E3.out (by omega) (by omega)
    have HV := Lib.hid hv
    clear hv hN
    go_wp2_with fail
    refine (KM.out _).mono ?_
    rintro e w2 ⟨rfl, rfl⟩
    go_wp2
    go_loop [9] (fun iv => iv = .int .i64 0) (fun _ => 0)
    case atStart => rfl
    case round =>
      obtain rfl := hrel
      go_wp2
      go_ret
      exact ⟨ret_int (by rw [HV.out]; rfl), HG1.out⟩
set_option maxRecDepth 100000 in
set_option maxHeartbeats 4000000 in
theorem one9_t5 (m : Msg) (a : Option Addr) (c : Nat) (nm sl : Int) (w : World) (hg : Grew w ((w.alloc (.cells (msgA m (.slice a m.l.length c)) 57)).alloc (.cells #[.int .i64 nm, .int .i64 5, .int .i64 sl] 63))) :
    Calls Try.prog 123 #[.agg (msgA m (.slice a m.l.length c)), .agg #[.int .i64 nm, .int .i64 5, .int .i64 sl]] w fun e w' => e = .returned (.int .i64 (errM m 5 sl)) ∧ Grew w w' := by
  have HG := Lib.hid hg
  clear hg
  simp only [msgA] at HG ⊢
  have KP := Lib.hid (fun W => place_any m a c nm 5 sl W)
  simp only [msgA] at KP
  have KM := Lib.hid (fun W => rmost_any 5 W)
  have E1 := Lib.hid (fun h => err_1 (m := m) (t := 5) (sl := sl) h)
  have E3 := Lib.hid (fun h h2 => err_3 (m := m) (t := 5) (sl := sl) h h2)
  go_enter Try.func123, Try.ntmps123
  go_wp2_with fail
  refine (KP.out _).mono ?_
  rintro e w1 ⟨rfl, g1⟩
  have x1 := ((Blk.new2 w _ _ _).grew g1).cell 1
  simp only [List.getElem?_toArray, List.getElem?_cons_zero, List.getElem?_cons_succ] at x1
  have HG1 := Lib.hid (HG.out.trans g1)
  generalize plN m 5 sl = N at E1 E3 ⊢
  generalize plS m 5 sl = S
  rw [show plLv 5 (Value.slice a m.l.length c) = .slice none 0 0 from rfl]
  rw [show plL m 5 = [] from rfl] at E3
  clear g1 KP HG
  by_cases hN : 4294967295 < N
  · have z0 : decide ((N : Int) > 4294967295) = true := by simp; omega
    have hv := E1.out (.inl ⟨.inr trivial, hN⟩)
    have HV := Lib.hid hv
    clear hv hN
    go_wp2
    go_ret
    exact ⟨ret_int (by rw [HV.out]; rfl), HG1.out⟩
  · have z0 : decide ((N : Int) > 4294967295) = false := by simp; omega
    have hv := E3.out (by omega) (by omega)
    have HV := Lib.hid hv
    clear hv hN
    go_wp2_with fail
    refine (KM.out _).mono ?_
    rintro e w2 ⟨rfl, rfl⟩
    go_wp2
    go_loop [9] (fun iv => iv = .int .i64 0) (fun _ => 0)
    case atStart => rfl
    case round =>
      obtain rfl := hrel
      go_wp2
      go_ret
      exact ⟨ret_int (by rw [HV.out]; rfl), HG1.out⟩
set_option maxRecDepth 100000 in
set_option maxHeartbeats 4000000 in
theorem one9_t4 (m : Msg) (a : Option Addr) (c : Nat) (nm sl : Int) (w : World) (hg : Grew w ((w.alloc (.cells (msgA m (.slice a m.l.length c)) 57)).alloc (.cells #[.int .i64 nm, .int .i64 4, .int .i64 sl] 63))) :
    Calls Try.prog 123 #[.agg (msgA m (.slice a m.l.length c)), .agg #[.int .i64 nm, .int .i64 4, .int .i64 sl]] w fun e w' => e = .returned (.int .i64 (errM m 4 sl)) ∧ Grew w w' := by
  have HG := Lib.hid hg
  clear hg
  simp only [msgA] at HG ⊢
  have KP := Lib.hid (fun W => place_any m a c nm 4 sl W)
  simp only [msgA] at KP
  have KM := Lib.hid (fun W => rmost_any 4 W)
  have E1 := Lib.hid (fun h => err_1 (m := m) (t := 4) (sl := sl) h)
  have E3 := Lib.hid (fun h h2 => err_3 (m := m) (t := 4) (sl := sl) h h2)
  go_enter Try.func123, Try.ntmps123
  go_wp2_with fail
  refine (KP.out _).mono ?_
  rintro e w1 ⟨rfl, g1⟩
  have x1 := ((Blk.new2 w _ _ _).grew g1).cell 1
  simp only [List.getElem?_toArray, List.getElem?_cons_zero, List.getElem?_cons_succ] at x1
  have HG1 := Lib.hid (HG.out.trans g1)
  generalize plN m 4 sl = N at E1 E3 ⊢
  generalize plS m 4 sl = S
  rw [show plLv 4 (Value.slice a m.l.length c) = .slice none 0 0 from rfl]
  rw [show plL m 4 = [] from rfl] at E3
  clear g1 KP HG
  by_cases hN : 1 < N
  · have z0 : decide ((N : Int) > 1) = true := by simp; omega
    have hv := E1.out (.inr ⟨trivial, hN⟩)
    have HV := Lib.hid hv
    clear hv hN
    go_wp2
    go_ret
    exact ⟨ret_int (by rw [HV.out]; rfl), HG1.out⟩
  · have z0 : decide ((N : Int) > 1) = false := by simp; omega
    have hv := E3.out (by omega) (by omega)
    have HV := Lib.hid hv
    clear hv hN
    go_wp2_with fail
    refine (KM.out _).mono ?_
    rintro e w2 ⟨rfl, rfl⟩
    go_wp2
    go_loop [9] (fun iv => iv = .int .i64 0) (fun _ => 0)
    case atStart => rfl
    case round =>
      obtain rfl := hrel
      go_wp2
      go_ret
      exact ⟨ret_int (by rw [HV.out]; rfl), HG1.out⟩
set_option maxRecDepth 100000 in
set_option maxHeartbeats 8000000 in
theorem one9_any (m : Msg) (a : Option Addr) (c : Nat) (nm t sl : Int) (w : World) (hm : okM m) (hl : Tx w (.slice a m.l.length c) m.l) :
    Calls Try.prog 123 #[.agg (msgA m (.slice a m.l.length c)), .agg #[.int .i64 nm, .int .i64 t, .int .i64 sl]] w fun e w' => e = .returned (.int .i64 (errM m t sl)) ∧ Grew w w' := by
  have KS := Lib.hid (fun W => rcheck_any (plS m t sl) (mostV t) (by have := plS_le hm t sl; omega) W)
  have HG := Lib.hid (grew2 w (.cells (msgA m (.slice a m.l.length c)) 57) (.cells #[.int .i64 nm, .int .i64 t, .int .i64 sl] 63))
  have hx := plL_tx hl t
  have HMEM := Lib.hid (plL_mem hm t)
  obtain ⟨a', c', hlv⟩ := tx_len hx
  rw [hlv] at hx
  have hnm : ∀ T : Int, T = t → True := fun _ _ => trivial
  clear hnm hm hl
  simp only [msgA] at HG ⊢
  by_cases h1 : t = 1
  · subst h1
    have h4 : True := trivial
    have h5 : True := trivial
    have h1 : True := trivial
    exact one9_t1 m a c nm sl w HG.out
  by_cases h5 : t = 5
  · subst h5
    exact one9_t5 m a c nm sl w HG.out
  by_cases h4 : t = 4
  · subst h4
    exact one9_t4 m a c nm sl w HG.out
  have hno : ¬ (((t = 1 ∨ t = 5) ∧ 4294967295 < plN m t sl) ∨ (t = 4 ∧ 1 < plN m t sl)) := by
    rintro (⟨h | h, -⟩ | ⟨h, -⟩)
    · exact h1 h
    · exact h5 h
    · exact h4 h
  have E2 := Lib.hid (fun h2 => err_2 (m := m) (t := t) (sl := sl) hno h2)
  have E3 := Lib.hid (fun h2 => err_3 (m := m) (t := t) (sl := sl) hno h2)
  have q1 : (t == 1) = false := by simpa using h1
  have q5 : (t == 5) = false := by simpa using h5
  have q4 : (t == 4) = false := by simpa using h4
  have KP := Lib.hid (fun W => place_any m a c nm t sl W)
  have KM := Lib.hid (fun W => rmost_any t W)
  simp only [msgA] at KP
  have HX := Lib.hid hx
  have HLV := Lib.hid hlv
  clear hno h1 h5 h4 hx hlv
  by_cases h7 : 7 ≤ t ∧ t ≤ 9
  · obtain ⟨h7, h9⟩ := h7
    have hv := E2.out ⟨h7, h9⟩
    have HV := Lib.hid hv
    clear hv E2 E3
    go_enter Try.func123, Try.ntmps123
    go_wp2_with fail
    refine (KP.out _).mono ?_
    rintro e w1 ⟨rfl, g1⟩
    rw [HLV.out]
    have x1 := ((Blk.new2 w _ _ _).grew g1).cell 1
    simp only [List.getElem?_toArray, List.getElem?_cons_zero, List.getElem?_cons_succ] at x1
    have HG1 := Lib.hid (HG.out.trans g1)
    generalize plN m t sl = N
    generalize plS m t sl = S at KS HV ⊢
    generalize plL m t = L at HX HMEM ⊢
    clear g1 KP HLV HG
    go_wp2_with fail
    refine (KM.out _).mono ?_
    rintro e w2 ⟨rfl, rfl⟩
    go_wp2_with fail
    refine (KS.out _).mono ?_
    rintro e w2 ⟨rfl, rfl⟩
    go_wp2
    go_ret
    exact ⟨ret_int (by rw [HV.out]), HG1.out⟩
  · have hv := E3.out h7
    have HV := Lib.hid hv
    have h7' : t < 7 ∨ 9 < t := by omega
    clear hv E2 E3 h7
    rcases h7' with h7 | h7
    all_goals (
      go_enter Try.func123, Try.ntmps123
      go_wp2_with fail
      (refine (KP.out _).mono ?_)
      rintro e w1 ⟨rfl, g1⟩
      rw [HLV.out]
      have x1 := ((Blk.new2 w _ _ _).grew g1).cell 1
      simp only [List.getElem?_toArray, List.getElem?_cons_zero, List.getElem?_cons_succ] at x1
      have HG1 := Lib.hid (HG.out.trans g1)
      generalize plN m t sl = N
      generalize plS m t sl = S
      generalize plL m t = L at HX HMEM HV ⊢
      generalize mostV t = M at KM HV ⊢
      clear g1 KP HLV HG KS
      go_wp2_with fail
      (refine (KM.out _).mono ?_)
      rintro e w2 ⟨rfl, rfl⟩
      by_cases h64 : 64 < L.length
      · have z0 : decide ((L.length : Int) > 64) = true := by simp; omega
        go_wp2
        go_ret
        exact ⟨ret_int (by rw [HV.out, if_pos h64]; rfl), HG1.out⟩
      have hz : (L.length : Int) ≤ 64 := by omega
      have H64 := Lib.hid h64
      have z0 : decide ((L.length : Int) > 64) = false := by simp; omega
      clear h64
      go_wp2
      go_loop [9] (fun iv => ∃ k : Nat, k ≤ L.length ∧ iv = .int .i64 k ∧ RowKit.Hid (firstE M (L.take k) = 0)) (fun iv => L.length - (intOf iv).toNat)
      case atStart => exact ⟨0, Nat.zero_le _, rfl, Lib.hid (by simp [firstE])⟩
      case round =>
        obtain ⟨k, hk, rfl, hI⟩ := hrel
        by_cases hlt : k < L.length
        · obtain ⟨a2, c2, e, -, -, -, hc⟩ := HX.out.open
          cases e
          obtain ⟨b, o, rfl, hcl⟩ := hc (by omega)
          have x0 := (below_ext HG1.out) _ _ (hcl k _ (tx_get L k hlt))
          have KC := Lib.hid (fun W => rcheck_any L[k] M (by have := HMEM.out L[k] (List.getElem_mem hlt); omega) W)
          by_cases he : chkV L[k] M = 0
          · have HN := Lib.hid (firstE_next hlt hI.out he)
            have z1 : ((chkV L[k] M : Int) != 0) = false := by simp [he]
            generalize chkV L[k] M = C at z1 KC
            generalize L[k] = s at x0 KC
            clear hcl hc he
            go_wp2_with fail
            (refine (KC.out _).mono ?_)
            rintro e w2 ⟨rfl, rfl⟩
            go_wp2
            go_round
            case rel => exact ⟨k + 1, by omega, by go_num, HN⟩
            case measure => simp [intOf]; omega
          · have HN := Lib.hid (firstE_at hlt hI.out he)
            have z1 : ((chkV L[k] M : Int) != 0) = true := by simp; omega
            generalize chkV L[k] M = C at z1 KC HN
            generalize L[k] = s at x0 KC
            clear hcl hc he
            go_wp2_with fail
            (refine (KC.out _).mono ?_)
            rintro e w2 ⟨rfl, rfl⟩
            go_wp2
            go_ret
            exact ⟨ret_int (by rw [HV.out, if_neg H64.out, HN.out]), HG1.out⟩
        · obtain rfl : k = L.length := by omega
          rw [List.take_length] at hI
          go_wp2
          go_ret
          exact ⟨ret_int (by rw [HV.out, if_neg H64.out, hI.out]; rfl), HG1.out⟩)
end Go.Proofs.Ytgoaijpckckdnaa
