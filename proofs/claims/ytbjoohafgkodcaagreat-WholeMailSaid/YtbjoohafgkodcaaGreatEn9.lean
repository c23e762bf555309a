/- rescriptref10.Bytes: contract. ; rescriptref10.Field: contract. -/
import Derived.Test.YtbjoohafgkodcaaGreatEn5
import Derived.Test.YtbjoohafgkodcaaGreatEn7
import Derived.Test.YtbjoohafgkodcaaGreatVa9
namespace Go.Proofs.YtbjoohafgkodcaaGreat
open Go Go.RowKit Go.Shelf
attribute [local go_sem] Oper.semAt_some

theorem putF_nobad {num : Int} {W N : Nat} {b : List UInt8} {p : Int} (h : num < 1 ∨ 536870911 < num) : (putF (num, W, N, b, p)).1 = [] := by
  refine putF_bad ?_
  have e : (tmake num W).2 = 1 := by unfold tmake; rw [if_pos h]
  unfold putF
  rw [if_pos (by show (tmake num W).2 ≠ 0; rw [e]; decide)]
  show (tmake num W).2 ≠ 0
  rw [e]; decide
theorem listF_nobad {num : Int} (h : num < 1 ∨ 536870911 < num) : ∀ l, listF num l = []
  | [] => rfl
  | s :: l => by show _ ++ listF num l = []; rw [putF_nobad h, listF_nobad h l]; rfl
theorem fieldF_nobad {m : Msg} {num t sl : Int} (h : num < 1 ∨ 536870911 < num) : fieldF m num t sl = [] := by
  unfold fieldF
  split
  · rfl
  split
  · exact putF_nobad h
  split
  · exact putF_nobad h
  split
  · exact putF_nobad h
  · exact listF_nobad h _
theorem fieldF_def {m : Msg} {num t sl : Int} (h : defB m t sl = true) : fieldF m num t sl = [] := by unfold fieldF; rw [if_pos (.inr h)]
theorem tmake_good {num : Int} {W : Nat} (h : ¬ (num < 1 ∨ 536870911 < num)) (hw : wireB W = true) : (tmake num W).2 = 0 := by unfold tmake; rw [if_neg h, if_neg (by rw [hw]; decide)]
theorem putF_good {num : Int} {W N : Nat} {b : List UInt8} {p : Int} (h : ¬ (num < 1 ∨ 536870911 < num)) (hw : wireB W = true) (hb : b.length ≤ 8192) : vput (tmake num W).1 ++ valB (num, W, N, b, p) = (putF (num, W, N, b, p)).1 := by
  have e := tmake_good (num := num) h hw
  unfold putF
  rw [if_neg (by show ¬ (tmake num W).2 ≠ 0; rw [e]; decide), if_neg (by show ¬ (W = 2 ∧ 8192 < b.length); omega)]
/-- a field that has something -/
theorem def_has {m : Msg} {t sl : Int} (h : defB m t sl = false) : (numB t = true ∧ 0 ≤ sl ∧ sl < 6) ∨ (txtB t = true ∧ 0 ≤ sl ∧ sl < 2) ∨ t = 10 := by
  by_cases h1 : numB t = true ∧ 0 ≤ sl ∧ sl < 6
  · exact .inl h1
  by_cases h2 : txtB t = true ∧ 0 ≤ sl ∧ sl < 2
  · exact .inr (.inl h2)
  by_cases h3 : t = 10
  · exact .inr (.inr h3)
  · rw [def_other h1 h2 h3] at h; cases h
theorem rwireV_eq {t : Int} (h1 : 1 ≤ t) (h2 : t ≤ 10) : wireV t = (rwireV t, true) ∧ rwireV t = ((rwireV t).toNat : Int) ∧ wireB (rwireV t).toNat = true ∧ (rwireV t).toNat < 256 := by
  rcases (show t = 1 ∨ t = 2 ∨ t = 3 ∨ t = 4 ∨ t = 5 ∨ t = 6 ∨ t = 7 ∨ t = 8 ∨ t = 9 ∨ t = 10 by omega) with rfl | rfl | rfl | rfl | rfl | rfl | rfl | rfl | rfl | rfl <;> decide
theorem sB_nil : sB ⟨#[]⟩ = [] := rfl
theorem sB_len (s : ByteArray) : (sB s).length = s.size := by show s.data.toList.length = s.data.size; rw [Array.length_toList]
/-- what rescriptref10.Field has of a field that has something -/
theorem fieldF_has {m : Msg} {num t sl : Int} (hd : defB m t sl = false) (h10 : t ≠ 10) :
    fieldF m num t sl = (putF (num, (rwireV t).toNat, if t = 3 then zigN (wrap64 (plN m t sl)) else plN m t sl, sB (plS m t sl), 0)).1 := by
  rcases def_has hd with ⟨h1, h2, h3⟩ | ⟨h1, h2, h3⟩ | h1
  · have hf := num_facts h1
    obtain ⟨e1, e2, -⟩ := pl_num (m := m) h1 h2 h3
    obtain ⟨w1, w2, -⟩ := rwireV_eq (t := t) (by omega) (by omega)
    unfold fieldF
    rw [if_neg (by rw [w1, hd]; simp), e1, e2, sB_nil]
    by_cases h33 : t = 3
    · subst h33; rw [if_pos rfl, if_pos rfl, intV_of h2 h3]; rfl
    · rw [if_neg h33, if_neg h33, if_pos h1, w1]
  · have hf := txt_facts h1
    obtain ⟨e1, e2, -⟩ := pl_txt (m := m) h1 h2 h3
    obtain ⟨w1, w2, -⟩ := rwireV_eq (t := t) (by omega) (by omega)
    unfold fieldF
    rw [if_neg (by rw [w1, hd]; simp), e1, e2, if_neg (by omega), if_neg (by unfold numB; simp; omega), if_pos h1, if_neg (by omega)]
    have : rwireV t = 2 := by unfold rwireV; rw [if_neg (by omega), if_neg (by omega), if_neg (by omega)]
    rw [this]; rfl
  · exact absurd h1 h10
theorem fieldF_list {m : Msg} {num sl : Int} (hd : defB m 10 sl = false) : fieldF m num 10 sl = listF num m.l := by
  unfold fieldF
  rw [if_neg (by rw [hd]; decide), if_neg (by omega), if_neg (by decide), if_neg (by decide)]
theorem plN_lt {m : Msg} {t sl : Int} (hn : ∀ i, i < 6 → m.n i < 18446744073709551616) : plN m t sl < 18446744073709551616 := by
  unfold plN; split
  · exact hn _ (by omega)
  · omega
theorem plS_small {m : Msg} {t sl : Int} (hs : smallB m = true) : (plS m t sl).size ≤ 8000 := by
  unfold smallB at hs
  simp at hs
  obtain ⟨⟨⟨h0, h1⟩, h2⟩, h3⟩ := hs
  unfold plS; split
  · rename_i h
    rcases (show sl = 0 ∨ sl = 1 by omega) with rfl | rfl
    · exact h0
    · exact h1
  · exact Nat.zero_le _
theorem zigN_wrap_lt (N : Nat) : zigN (wrap64 (N : Int)) < 18446744073709551616 := zigN_lt (by unfold wrap64; omega) (by unfold wrap64; omega)
def FldR (num : Int) (W N : Nat) (S : ByteArray) (n : Nat) (w0 : World) (x : Value) (W' : World) : Prop :=
  ∃ (p : Nat) (v : Value), x = .pointer (some ⟨p, 0, none⟩) ∧ n ≤ p ∧ Blk W' p 101 #[.int .i64 num, .int .u8 (W : Nat), .int .u64 (N : Nat), v, .int .i64 0] ∧ Bs W' v (sB S) ∧ (∀ j u, Bs (W'.setCell ⟨p, j, none⟩ u) v (sB S)) ∧ Grew w0 W'
set_option maxRecDepth 100000 in
set_option maxHeartbeats 4000000 in
theorem r10field_bad (m : Msg) (a : Option Addr) (c : Nat) (num t sl : Int) (w : World) (h : defB m t sl = true ∨ num < 1 ∨ 536870911 < num) :
    Calls Tryz.prog 39 #[.agg (msgA m (.slice a m.l.length c)), .agg #[.int .i64 num, .int .i64 t, .int .i64 sl]] w (FldP m num t sl w) := by
  have hf : fieldF m num t sl = [] := by
    rcases h with h | h
    · exact fieldF_def h
    · exact fieldF_nobad h
  have HF := Lib.hid hf
  have KD := Lib.hid (fun W => rdefault_any m a c num t sl W)
  have HG := Lib.hid (grew2 w (.cells (msgA m (.slice a m.l.length c)) 29) (.cells #[.int .i64 num, .int .i64 t, .int .i64 sl] 82))
  obtain ⟨W0, hW0⟩ : ∃ W0, W0 = (w.alloc (.cells (msgA m (.slice a m.l.length c)) 29)).alloc (.cells #[.int .i64 num, .int .i64 t, .int .i64 sl] 82) := ⟨_, rfl⟩
  have k2 : Blk W0 (w.heap.size + 1) 82 #[.int .i64 num, .int .i64 t, .int .i64 sl] := by rw [hW0]; exact Blk.new2 _ _ _ _
  have K2 := Lib.hid k2
  rw [← hW0] at HG
  have HB := Lib.hid h
  simp only [msgA] at KD HG hW0 ⊢
  unfold FldP
  clear hf k2 h
  go_enter Tryz.func39, Tryz.ntmps39
  go_wp2_with fail
  rw [← hW0]
  refine (KD.out _).mono ?_
  rintro e w1 ⟨rfl, g1⟩
  have d0 := (K2.out.grew g1).cell 0
  simp only [List.getElem?_toArray, List.getElem?_cons_zero] at d0
  have HG1 := Lib.hid (HG.out.trans g1)
  have hb := HB.out
  clear hW0 g1
  cases hd : defB m t sl with
  | true =>
    clear hb HB hd
    go_wp2
    go_ret
    rw [HF.out]
    exact ⟨_, rfl, ownB_nil _ _, HG1.out⟩
  | false =>
    rw [hd] at hb
    by_cases h1 : num < 1
    · have q1 : decide (num < 1) = true := by simpa using h1
      clear hb HB hd
      go_wp2
      go_ret
      rw [HF.out]
      exact ⟨_, rfl, ownB_nil _ _, HG1.out⟩
    · have h2 : 536870911 < num := by rcases hb with h | h | h; cases h; exact absurd h h1; exact h
      have q1 : decide (num < 1) = false := by simpa using h1
      have q2 : decide (num > 536870911) = true := by simpa using h2
      clear hb HB hd
      go_wp2
      go_ret
      rw [HF.out]
      exact ⟨_, rfl, ownB_nil _ _, HG1.out⟩
set_option maxRecDepth 100000 in
set_option maxHeartbeats 8000000 in
theorem r10field_good (m : Msg) (a : Option Addr) (c : Nat) (num t sl : Int) (w : World) (hd : defB m t sl = false) (hnum : ¬ (num < 1 ∨ 536870911 < num)) (hs : smallB m = true) (hn : ∀ i, i < 6 → m.n i < 18446744073709551616) (hl : Tx w (.slice a m.l.length c) m.l) :
    Calls Tryz.prog 39 #[.agg (msgA m (.slice a m.l.length c)), .agg #[.int .i64 num, .int .i64 t, .int .i64 sl]] w (FldP m num t sl w) := by
  have ht : 1 ≤ t ∧ t ≤ 10 := by
    rcases def_has hd with ⟨h, -, -⟩ | ⟨h, -, -⟩ | h
    · have := num_facts h; omega
    · have := txt_facts h; omega
    · omega
  obtain ⟨-, w2, w3, w4⟩ := rwireV_eq ht.1 ht.2
  have hfl : t ≠ 10 → FldP m num t sl = FldP m num t sl := fun _ => rfl
  have HFH := Lib.hid (fun h => fieldF_has (m := m) (num := num) (t := t) (sl := sl) hd h)
  have HFL := Lib.hid (fun (h : t = 10) => (show fieldF m num t sl = listF num m.l from by subst h; exact fieldF_list hd))
  have HS10 := Lib.hid (fun (h : t = 10) => (show plN m t sl = 0 ∧ plS m t sl = ⟨#[]⟩ ∧ plLv t (.slice a m.l.length c) = .slice a m.l.length c from by subst h; have hp := pl_list (m := m) (sl := sl); exact ⟨hp.1, hp.2.1, hp.2.2.2 _⟩))
  have HSM := Lib.hid (show (∀ s ∈ m.l, s.size ≤ 200) ∧ m.l.length ≤ 70 from by
    unfold smallB at hs
    simp at hs
    exact ⟨hs.2, hs.1.2⟩)
  have hN := plN_lt (m := m) (t := t) (sl := sl) hn
  have hS := plS_small (m := m) (t := t) (sl := sl) hs
  have HD := Lib.hid hd
  have KD := Lib.hid (fun W => rdefault_any m a c num t sl W)
  have KPL := Lib.hid (fun W => place_any m a c num t sl W)
  have HL := Lib.hid hl
  have hlv : ∃ a' n' c', plLv t (.slice a m.l.length c) = .slice a' n' c' := by
    unfold plLv; split
    · exact ⟨_, _, _, rfl⟩
    · exact ⟨_, _, _, rfl⟩
  unfold PlP at KPL
  obtain ⟨W, hW⟩ : ∃ W, W = (rwireV t).toNat := ⟨_, rfl⟩
  rw [← hW] at w2 w3 w4 HFH
  have HW := Lib.hid w2
  obtain ⟨N, hNN⟩ : ∃ N, N = plN m t sl := ⟨_, rfl⟩
  obtain ⟨S, hSS⟩ : ∃ S, S = plS m t sl := ⟨_, rfl⟩
  obtain ⟨a9, n9, c9, hlv⟩ := hlv
  rw [← hNN, ← hSS, hlv] at KPL HS10
  rw [← hNN] at hN
  rw [← hSS] at hS
  rw [← hNN, ← hSS] at HFH
  have q1 : decide (num < 1) = false := by simp; omega
  have q2 : decide (num > 536870911) = false := by simp; omega
  have HNB := Lib.hid hnum
  have HWW := Lib.hid (And.intro w3 w4)
  have HNN := Lib.hid hN
  have HSS := Lib.hid hS
  obtain ⟨W0, hW0⟩ : ∃ W0, W0 = (w.alloc (.cells (msgA m (.slice a m.l.length c)) 29)).alloc (.cells #[.int .i64 num, .int .i64 t, .int .i64 sl] 82) := ⟨_, rfl⟩
  have hg0 : Grew w W0 := by rw [hW0]; exact grew2 _ _ _
  have k2 : Blk W0 (w.heap.size + 1) 82 #[.int .i64 num, .int .i64 t, .int .i64 sl] := by rw [hW0]; exact Blk.new2 _ _ _ _
  have k1 : Blk W0 w.heap.size 29 (msgA m (.slice a m.l.length c)) := by rw [hW0]; exact (Blk.new _ _ _).alloc _
  have K1 := Lib.hid k1
  have K2 := Lib.hid k2
  have HG := Lib.hid hg0
  simp only [msgA] at KD KPL K1 hW0 ⊢
  unfold FldP
  clear hd hs hn hN hS hl w2 w3 w4 hW hNN hSS hlv hg0 k1 k2 hfl
  go_enter Tryz.func39, Tryz.ntmps39
  go_wp2_with fail
  rw [← hW0]
  refine (KD.out _).mono ?_
  rw [HD.out]
  rintro e w1 ⟨rfl, g1⟩
  have HG1 := Lib.hid (HG.out.trans g1)
  have K3 := Lib.hid (K1.out.grew g1)
  have K4 := Lib.hid (K2.out.grew g1)
  have d0 := K4.out.cell 0
  have d1 := K4.out.cell 1
  have d2 := K4.out.cell 2
  obtain ⟨c0, c1', c2, c3, c4, c5, c6, c7, c8, c99⟩ := mcells K3.out
  simp only [List.getElem?_toArray, List.getElem?_cons_zero, List.getElem?_cons_succ] at d0 d1 d2
  clear hW0 g1 HG K1 K2 hnum
  go_wp2_with fail
  refine (KPL.out _).mono ?_
  rintro e w2 ⟨rfl, g2⟩
  have HG2 := Lib.hid (HG1.out.trans g2)
  have K5 := Lib.hid (K4.out.grew g2)
  clear d0 d1 d2 c0 c1' c2 c3 c4 c5 c6 c7 c8 c99 g2 K3 K4 HG1
  have d0 := K5.out.cell 0
  have d1 := K5.out.cell 1
  simp only [List.getElem?_toArray, List.getElem?_cons_zero, List.getElem?_cons_succ] at d0 d1
  go_upto_region 4 with (fail)
  go_cut [8] from 31 (fun x8 wx => FldR num W N S w2.heap.size w2 x8 wx)
  case first =>
    obtain ⟨ca, hca, hba, gca⟩ := conv_str S w2.drew (by have := HSS.out; omega)
    obtain ⟨cb, hcb, hbb, gcb⟩ := conv_str S ((w2.alloc (.cells #[.int .i64 0, .int .u8 0, .int .u64 0, .slice none 0 0, .int .i64 0] 101)).drew) (by have := HSS.out; omega)
    have HX : RowKit.Hid (∀ W, Grew w2 W → W.cell? ⟨w.heap.size + 1, 0, none⟩ = some (.int .i64 num) ∧ W.cell? ⟨w.heap.size + 1, 1, none⟩ = some (.int .i64 t)) := Lib.hid fun W g => ⟨(below_ext g) _ _ d0, (below_ext g) _ _ d1⟩
    have G1 : Grew w2 w2.drew := Drew.grew ⟨1, rfl⟩
    have G2 : Grew w2 (Lib.bytesWorld w2.drew 5 S) := G1.trans gca
    have G3 : Grew w2 ((w2.alloc (.cells #[.int .i64 0, .int .u8 0, .int .u64 0, .slice none 0 0, .int .i64 0] 101)).drew) := Grew.trans (grew_alloc _ _) (Drew.grew ⟨1, rfl⟩)
    have G4 := G3.trans gcb
    have kb : Blk (Lib.bytesWorld ((w2.alloc (.cells #[.int .i64 0, .int .u8 0, .int .u64 0, .slice none 0 0, .int .i64 0] 101)).drew) 5 S) w2.heap.size 101 #[.int .i64 0, .int .u8 0, .int .u64 0, .slice none 0 0, .int .i64 0] := ((Blk.new w2 101 #[.int .i64 0, .int .u8 0, .int .u64 0, .slice none 0 0, .int .i64 0]).drew).grew gcb
    obtain ⟨WA, hWA⟩ : ∃ WA, WA = Lib.bytesWorld w2.drew 5 S := ⟨_, rfl⟩
    obtain ⟨WB, hWB⟩ : ∃ WB, WB = Lib.bytesWorld ((w2.alloc (.cells #[.int .i64 0, .int .u8 0, .int .u64 0, .slice none 0 0, .int .i64 0] 101)).drew) 5 S := ⟨_, rfl⟩
    have hzA : WA.heap.size = w2.heap.size + 1 := by rw [hWA]; exact Lib.bytesWorld_size _ _ _
    rw [← hWA] at hca hba gca G2
    rw [← hWB] at hcb hbb gcb G4 kb
    clear hWA hWB
    obtain ⟨f0, f1, f2, f3, f4, z0, z1, z2, z3, z4⟩ := cells5 kb
    have KB := Lib.hid kb
    have HBA := Lib.hid hba
    have HBB := Lib.hid hbb
    have GA2 := Lib.hid G2
    have GB4 := Lib.hid G4
    have XA : FldR num W N S w2.heap.size w2 (.pointer (some ⟨WA.heap.size, 0, none⟩)) (WA.alloc (.cells #[.int .i64 num, .int .u8 (W : Nat), .int .u64 (N : Nat), .slice (some ⟨w2.heap.size, 0, none⟩) S.size ca, .int .i64 0] 101)) := ⟨_, _, rfl, G2.size, Blk.new _ _ _, Sl.grew hba (grew_alloc _ _), fun j u => bs_other (b := w2.heap.size) (Sl.grew hba (grew_alloc _ _)) (by omega), G2.trans (grew_alloc _ _)⟩
    have hbb2 : Bs WB (.slice (some ⟨w2.heap.size + 1, 0, none⟩) S.size cb) (sB S) := by
      have h := hbb
      rw [show ((w2.alloc (.cells #[.int .i64 0, .int .u8 0, .int .u64 0, .slice none 0 0, .int .i64 0] 101)).drew).heap.size = w2.heap.size + 1 from by simp] at h
      exact h
    have XB : FldR num W N S w2.heap.size w2 (.pointer (some ⟨w2.heap.size, 0, none⟩)) (((((WB.setCell ⟨w2.heap.size, 0, none⟩ (.int .i64 num)).setCell ⟨w2.heap.size, 1, none⟩ (.int .u8 (W : Nat))).setCell ⟨w2.heap.size, 2, none⟩ (.int .u64 (N : Nat))).setCell ⟨w2.heap.size, 3, none⟩ (.slice (some ⟨w2.heap.size + 1, 0, none⟩) S.size cb)).setCell ⟨w2.heap.size, 4, none⟩ (.int .i64 0)) := by
      have k5 := ((((kb.set 0 (.int .i64 num)).set 1 (.int .u8 (W : Nat))).set 2 (.int .u64 (N : Nat))).set 3 (.slice (some ⟨w2.heap.size + 1, 0, none⟩) S.size cb)).set 4 (.int .i64 0)
      simp only [List.setIfInBounds_toArray, List.set_cons_zero, List.set_cons_succ] at k5
      exact ⟨_, _, rfl, Nat.le_refl _, k5, bs_other (bs_other (bs_other (bs_other (bs_other hbb2 (by omega)) (by omega)) (by omega)) (by omega)) (by omega), fun j u => bs_other (bs_other (bs_other (bs_other (bs_other (bs_other hbb2 (by omega)) (by omega)) (by omega)) (by omega)) (by omega)) (by omega), grew_set (grew_set (grew_set (grew_set (grew_set G4 (Nat.le_refl _) _) (Nat.le_refl _) _) (Nat.le_refl _) _) (Nat.le_refl _) _) (Nat.le_refl _) _⟩
    have HXA := Lib.hid XA
    have HXB := Lib.hid XB
    have HKA := fun o => HX.out _ (Grew.trans G2 (grew_alloc WA o))
    have HKB := fun u0 u1 u2 u3 u4 => HX.out _ (grew_set (b := w2.heap.size) (j := 4) (grew_set (b := w2.heap.size) (j := 3) (grew_set (b := w2.heap.size) (j := 2) (grew_set (b := w2.heap.size) (j := 1) (grew_set (b := w2.heap.size) (j := 0) G4 (Nat.le_refl _) u0) (Nat.le_refl _) u1) (Nat.le_refl _) u2) (Nat.le_refl _) u3) (Nat.le_refl _) u4)
    clear hzA kb hba hbb hbb2 gca gcb G2 G4 XA XB
    refine wp_region_held_drew (S := fun W => W.cell? ⟨w.heap.size + 1, 0, none⟩ = some (.int .i64 num) ∧ W.cell? ⟨w.heap.size + 1, 1, none⟩ = some (.int .i64 t)) (by kernel_rfl) (HX.out _ G1) (fun hHeld => ?_)
    refine wpAnyH_take (i := 0) (oi := _) (v := ?_) rfl (by kernel_rfl) (by kernel_rfl) (by kernel_rfl) (fun _ _ _ h => h) (Or.inl ⟨by rfl, ?_⟩) (by assumption) ?_
    rotate_left
    · (intro W hSw; obtain ⟨y0, y1⟩ := hSw; go_simp; try with_reducible rfl)
    (try simp only [Act.put, List.setIfInBounds_toArray])
    refine wpAnyH_take (i := 1) (oi := _) (v := ?_) rfl (by kernel_rfl) (by kernel_rfl) (by kernel_rfl) (fun _ _ _ h => h) (Or.inl ⟨by rfl, ?_⟩) (by assumption) ?_
    rotate_left
    · (intro W hSw; obtain ⟨y0, y1⟩ := hSw; go_simp; try with_reducible rfl)
    (try simp only [Act.put])
    refine wpAnyH_take (i := 2) (oi := _) (v := ?_) rfl (by kernel_rfl) (by kernel_rfl) (by kernel_rfl) (fun _ _ _ h => h) (Or.inl ⟨by rfl, ?_⟩) (by assumption) ?_
    rotate_left
    · (intro W hSw; obtain ⟨y0, y1⟩ := hSw; go_simp; try with_reducible rfl)
    (try simp only [Act.put])
    refine wpAnyH_take (i := 3) (oi := _) (v := ?_) rfl (by kernel_rfl) (by kernel_rfl) (by kernel_rfl) (fun _ _ _ h => h) (Or.inl ⟨by rfl, ?_⟩) (by assumption) ?_
    rotate_left
    · (intro W hSw; obtain ⟨y0, y1⟩ := hSw; go_simp; try with_reducible rfl)
    (try simp only [Act.put])
    refine wpAnyH_take (i := 5) (oi := _) (v := ?_) rfl (by kernel_rfl) (by kernel_rfl) (by kernel_rfl) (fun _ _ _ h => h) (Or.inl ⟨by rfl, ?_⟩) (by assumption) ?_
    rotate_left
    · (intro W hSw; obtain ⟨y0, y1⟩ := hSw; go_simp; try with_reducible rfl)
    (try simp only [Act.put])
    refine wpAnyH_take (i := 6) (oi := _) (v := ?_) rfl (by kernel_rfl) (by kernel_rfl) (by kernel_rfl) (fun _ _ _ h => h) (Or.inl ⟨by rfl, ?_⟩) (by assumption) ?_
    rotate_left
    · (intro W hSw; obtain ⟨y0, y1⟩ := hSw; go_simp; try with_reducible rfl)
    (try simp only [Act.put])
    refine wpAnyH_ready (rs := [4, 7, 9]) (by kernel_rfl) (by simp) ?_
    refine AllReadyH.cons (o := _) rfl (fun K hK => ?_) ?_
    · skip
      go_simp
      refine (rwire8_any t _).mono ?_
      rw [HW.out]
      rintro e5 W5 ⟨rfl, rfl⟩
      go_simp
      refine hK.out _ _ (by (first | with_reducible exact HX.out _ G1 | with_reducible exact HX.out _ GA2.out | with_reducible exact HX.out _ G3 | with_reducible exact HX.out _ GB4.out | with_reducible exact HKA _ | with_reducible exact HKB _ _ _ _ _)) (fun hHeld => ?_)
      clear hK K
      (try simp only [Act.put, List.setIfInBounds_toArray, List.set_cons_zero, List.set_cons_succ])
      refine wpAnyH_ready (rs := [7, 9]) (by kernel_rfl) (by simp) ?_
      refine AllReadyH.cons (o := _) rfl (fun K hK => ?_) ?_
      · skip
        go_simp
        refine hK.out _ _ (by (first | with_reducible exact HX.out _ G1 | with_reducible exact HX.out _ GA2.out | with_reducible exact HX.out _ G3 | with_reducible exact HX.out _ GB4.out | with_reducible exact HKA _ | with_reducible exact HKB _ _ _ _ _)) (fun hHeld => ?_)
        clear hK K
        (try simp only [Act.put, List.setIfInBounds_toArray, List.set_cons_zero, List.set_cons_succ])
        refine wpAnyH_take (i := 8) (oi := _) (v := ?_) rfl (by kernel_rfl) (by kernel_rfl) (by kernel_rfl) (fun _ _ _ h => h) (Or.inl ⟨by rfl, ?_⟩) (by assumption) ?_
        rotate_left
        · (intro W hSw; obtain ⟨y0, y1⟩ := hSw; go_simp; try with_reducible rfl)
        (try simp only [Act.put, List.setIfInBounds_toArray])
        refine wpAnyH_ready (rs := [9]) (by kernel_rfl) (by simp) ?_
        refine AllReadyH.cons (o := _) rfl (fun K hK => ?_) ?_
        · skip
          go_simp
          refine hK.out _ _ (by (first | with_reducible exact HX.out _ G1 | with_reducible exact HX.out _ GA2.out | with_reducible exact HX.out _ G3 | with_reducible exact HX.out _ GB4.out | with_reducible exact HKA _ | with_reducible exact HKB _ _ _ _ _)) (fun hHeld => ?_)
          clear hK K
          (try simp only [Act.put, List.setIfInBounds_toArray, List.set_cons_zero, List.set_cons_succ])
          refine wpAnyH_ready (rs := [10]) (by kernel_rfl) (by simp) ?_
          refine AllReadyH.cons (o := _) rfl (fun K hK => ?_) AllReadyH.nil
          go_simp
          refine hK.out _ _ (by (first | with_reducible exact HX.out _ G1 | with_reducible exact HX.out _ GA2.out | with_reducible exact HX.out _ G3 | with_reducible exact HX.out _ GB4.out | with_reducible exact HKA _ | with_reducible exact HKB _ _ _ _ _)) (fun _ => ?_)
          clear hK K
          (try simp only [Act.put, List.setIfInBounds_toArray, List.set_cons_zero, List.set_cons_succ])
          refine wpAnyH_done (by kernel_rfl) ?_ _
          go_wp2_with fail
          go_meet
          first
            | with_reducible exact HXA.out
            | with_reducible exact HXB.out
        exact AllReadyH.nil
      refine AllReadyH.cons (o := _) rfl (fun K hK => ?_) ?_
      · skip
        go_simp
        refine hK.out _ _ (by (first | with_reducible exact HX.out _ G1 | with_reducible exact HX.out _ GA2.out | with_reducible exact HX.out _ G3 | with_reducible exact HX.out _ GB4.out | with_reducible exact HKA _ | with_reducible exact HKB _ _ _ _ _)) (fun hHeld => ?_)
        clear hK K
        (try simp only [Act.put, List.setIfInBounds_toArray, List.set_cons_zero, List.set_cons_succ])
        refine wpAnyH_ready (rs := [7]) (by kernel_rfl) (by simp) ?_
        refine AllReadyH.cons (o := _) rfl (fun K hK => ?_) ?_
        · skip
          go_simp
          refine hK.out _ _ (by (first | with_reducible exact HX.out _ G1 | with_reducible exact HX.out _ GA2.out | with_reducible exact HX.out _ G3 | with_reducible exact HX.out _ GB4.out | with_reducible exact HKA _ | with_reducible exact HKB _ _ _ _ _)) (fun hHeld => ?_)
          clear hK K
          (try simp only [Act.put, List.setIfInBounds_toArray, List.set_cons_zero, List.set_cons_succ])
          refine wpAnyH_take (i := 8) (oi := _) (v := ?_) rfl (by kernel_rfl) (by kernel_rfl) (by kernel_rfl) (fun _ _ _ h => h) (Or.inl ⟨by rfl, ?_⟩) (by assumption) ?_
          rotate_left
          · (intro W hSw; obtain ⟨y0, y1⟩ := hSw; go_simp; try with_reducible rfl)
          (try simp only [Act.put, List.setIfInBounds_toArray])
          refine wpAnyH_ready (rs := [10]) (by kernel_rfl) (by simp) ?_
          refine AllReadyH.cons (o := _) rfl (fun K hK => ?_) AllReadyH.nil
          go_simp
          refine hK.out _ _ (by (first | with_reducible exact HX.out _ G1 | with_reducible exact HX.out _ GA2.out | with_reducible exact HX.out _ G3 | with_reducible exact HX.out _ GB4.out | with_reducible exact HKA _ | with_reducible exact HKB _ _ _ _ _)) (fun _ => ?_)
          clear hK K
          (try simp only [Act.put, List.setIfInBounds_toArray, List.set_cons_zero, List.set_cons_succ])
          refine wpAnyH_done (by kernel_rfl) ?_ _
          go_wp2_with fail
          go_meet
          first
            | with_reducible exact HXA.out
            | with_reducible exact HXB.out
        exact AllReadyH.nil
      exact AllReadyH.nil
    refine AllReadyH.cons (o := _) rfl (fun K hK => ?_) ?_
    · skip
      go_simp
      refine hK.out _ _ (by (first | with_reducible exact HX.out _ G1 | with_reducible exact HX.out _ GA2.out | with_reducible exact HX.out _ G3 | with_reducible exact HX.out _ GB4.out | with_reducible exact HKA _ | with_reducible exact HKB _ _ _ _ _)) (fun hHeld => ?_)
      clear hK K
      (try simp only [Act.put, List.setIfInBounds_toArray, List.set_cons_zero, List.set_cons_succ])
      refine wpAnyH_ready (rs := [4, 9]) (by kernel_rfl) (by simp) ?_
      refine AllReadyH.cons (o := _) rfl (fun K hK => ?_) ?_
      · skip
        go_simp
        refine (rwire8_any t _).mono ?_
        rw [HW.out]
        rintro e5 W5 ⟨rfl, rfl⟩
        go_simp
        refine hK.out _ _ (by (first | with_reducible exact HX.out _ G1 | with_reducible exact HX.out _ GA2.out | with_reducible exact HX.out _ G3 | with_reducible exact HX.out _ GB4.out | with_reducible exact HKA _ | with_reducible exact HKB _ _ _ _ _)) (fun hHeld => ?_)
        clear hK K
        (try simp only [Act.put, List.setIfInBounds_toArray, List.set_cons_zero, List.set_cons_succ])
        refine wpAnyH_take (i := 8) (oi := _) (v := ?_) rfl (by kernel_rfl) (by kernel_rfl) (by kernel_rfl) (fun _ _ _ h => h) (Or.inl ⟨by rfl, ?_⟩) (by assumption) ?_
        rotate_left
        · (intro W hSw; obtain ⟨y0, y1⟩ := hSw; go_simp; try with_reducible rfl)
        (try simp only [Act.put, List.setIfInBounds_toArray])
        refine wpAnyH_ready (rs := [9]) (by kernel_rfl) (by simp) ?_
        refine AllReadyH.cons (o := _) rfl (fun K hK => ?_) ?_
        · skip
          go_simp
          refine hK.out _ _ (by (first | with_reducible exact HX.out _ G1 | with_reducible exact HX.out _ GA2.out | with_reducible exact HX.out _ G3 | with_reducible exact HX.out _ GB4.out | with_reducible exact HKA _ | with_reducible exact HKB _ _ _ _ _)) (fun hHeld => ?_)
          clear hK K
          (try simp only [Act.put, List.setIfInBounds_toArray, List.set_cons_zero, List.set_cons_succ])
          refine wpAnyH_ready (rs := [10]) (by kernel_rfl) (by simp) ?_
          refine AllReadyH.cons (o := _) rfl (fun K hK => ?_) AllReadyH.nil
          go_simp
          refine hK.out _ _ (by (first | with_reducible exact HX.out _ G1 | with_reducible exact HX.out _ GA2.out | with_reducible exact HX.out _ G3 | with_reducible exact HX.out _ GB4.out | with_reducible exact HKA _ | with_reducible exact HKB _ _ _ _ _)) (fun _ => ?_)
          clear hK K
          (try simp only [Act.put, List.setIfInBounds_toArray, List.set_cons_zero, List.set_cons_succ])
          refine wpAnyH_done (by kernel_rfl) ?_ _
          go_wp2_with fail
          go_meet
          first
            | with_reducible exact HXA.out
            | with_reducible exact HXB.out
        exact AllReadyH.nil
      refine AllReadyH.cons (o := _) rfl (fun K hK => ?_) ?_
      · skip
        go_simp
        refine hK.out _ _ (by (first | with_reducible exact HX.out _ G1 | with_reducible exact HX.out _ GA2.out | with_reducible exact HX.out _ G3 | with_reducible exact HX.out _ GB4.out | with_reducible exact HKA _ | with_reducible exact HKB _ _ _ _ _)) (fun hHeld => ?_)
        clear hK K
        (try simp only [Act.put, List.setIfInBounds_toArray, List.set_cons_zero, List.set_cons_succ])
        refine wpAnyH_ready (rs := [4]) (by kernel_rfl) (by simp) ?_
        refine AllReadyH.cons (o := _) rfl (fun K hK => ?_) ?_
        · skip
          go_simp
          refine (rwire8_any t _).mono ?_
          rw [HW.out]
          rintro e5 W5 ⟨rfl, rfl⟩
          go_simp
          refine hK.out _ _ (by (first | with_reducible exact HX.out _ G1 | with_reducible exact HX.out _ GA2.out | with_reducible exact HX.out _ G3 | with_reducible exact HX.out _ GB4.out | with_reducible exact HKA _ | with_reducible exact HKB _ _ _ _ _)) (fun hHeld => ?_)
          clear hK K
          (try simp only [Act.put, List.setIfInBounds_toArray, List.set_cons_zero, List.set_cons_succ])
          refine wpAnyH_take (i := 8) (oi := _) (v := ?_) rfl (by kernel_rfl) (by kernel_rfl) (by kernel_rfl) (fun _ _ _ h => h) (Or.inl ⟨by rfl, ?_⟩) (by assumption) ?_
          rotate_left
          · (intro W hSw; obtain ⟨y0, y1⟩ := hSw; go_simp; try with_reducible rfl)
          (try simp only [Act.put, List.setIfInBounds_toArray])
          refine wpAnyH_ready (rs := [10]) (by kernel_rfl) (by simp) ?_
          refine AllReadyH.cons (o := _) rfl (fun K hK => ?_) AllReadyH.nil
          go_simp
          refine hK.out _ _ (by (first | with_reducible exact HX.out _ G1 | with_reducible exact HX.out _ GA2.out | with_reducible exact HX.out _ G3 | with_reducible exact HX.out _ GB4.out | with_reducible exact HKA _ | with_reducible exact HKB _ _ _ _ _)) (fun _ => ?_)
          clear hK K
          (try simp only [Act.put, List.setIfInBounds_toArray, List.set_cons_zero, List.set_cons_succ])
          refine wpAnyH_done (by kernel_rfl) ?_ _
          go_wp2_with fail
          go_meet
          first
            | with_reducible exact HXA.out
            | with_reducible exact HXB.out
        exact AllReadyH.nil
      exact AllReadyH.nil
    refine AllReadyH.cons (o := _) rfl (fun K hK => ?_) ?_
    · skip
      go_simp
      refine hK.out _ _ (by (first | with_reducible exact HX.out _ G1 | with_reducible exact HX.out _ GA2.out | with_reducible exact HX.out _ G3 | with_reducible exact HX.out _ GB4.out | with_reducible exact HKA _ | with_reducible exact HKB _ _ _ _ _)) (fun hHeld => ?_)
      clear hK K
      (try simp only [Act.put, List.setIfInBounds_toArray, List.set_cons_zero, List.set_cons_succ])
      refine wpAnyH_ready (rs := [4, 7]) (by kernel_rfl) (by simp) ?_
      refine AllReadyH.cons (o := _) rfl (fun K hK => ?_) ?_
      · skip
        go_simp
        refine (rwire8_any t _).mono ?_
        rw [HW.out]
        rintro e5 W5 ⟨rfl, rfl⟩
        go_simp
        refine hK.out _ _ (by (first | with_reducible exact HX.out _ G1 | with_reducible exact HX.out _ GA2.out | with_reducible exact HX.out _ G3 | with_reducible exact HX.out _ GB4.out | with_reducible exact HKA _ | with_reducible exact HKB _ _ _ _ _)) (fun hHeld => ?_)
        clear hK K
        (try simp only [Act.put, List.setIfInBounds_toArray, List.set_cons_zero, List.set_cons_succ])
        refine wpAnyH_ready (rs := [7]) (by kernel_rfl) (by simp) ?_
        refine AllReadyH.cons (o := _) rfl (fun K hK => ?_) ?_
        · skip
          go_simp
          refine hK.out _ _ (by (first | with_reducible exact HX.out _ G1 | with_reducible exact HX.out _ GA2.out | with_reducible exact HX.out _ G3 | with_reducible exact HX.out _ GB4.out | with_reducible exact HKA _ | with_reducible exact HKB _ _ _ _ _)) (fun hHeld => ?_)
          clear hK K
          (try simp only [Act.put, List.setIfInBounds_toArray, List.set_cons_zero, List.set_cons_succ])
          refine wpAnyH_take (i := 8) (oi := _) (v := ?_) rfl (by kernel_rfl) (by kernel_rfl) (by kernel_rfl) (fun _ _ _ h => h) (Or.inl ⟨by rfl, ?_⟩) (by assumption) ?_
          rotate_left
          · (intro W hSw; obtain ⟨y0, y1⟩ := hSw; go_simp; try with_reducible rfl)
          (try simp only [Act.put, List.setIfInBounds_toArray])
          refine wpAnyH_ready (rs := [10]) (by kernel_rfl) (by simp) ?_
          refine AllReadyH.cons (o := _) rfl (fun K hK => ?_) AllReadyH.nil
          go_simp
          refine hK.out _ _ (by (first | with_reducible exact HX.out _ G1 | with_reducible exact HX.out _ GA2.out | with_reducible exact HX.out _ G3 | with_reducible exact HX.out _ GB4.out | with_reducible exact HKA _ | with_reducible exact HKB _ _ _ _ _)) (fun _ => ?_)
          clear hK K
          (try simp only [Act.put, List.setIfInBounds_toArray, List.set_cons_zero, List.set_cons_succ])
          refine wpAnyH_done (by kernel_rfl) ?_ _
          go_wp2_with fail
          go_meet
          first
            | with_reducible exact HXA.out
            | with_reducible exact HXB.out
        exact AllReadyH.nil
      refine AllReadyH.cons (o := _) rfl (fun K hK => ?_) ?_
      · skip
        go_simp
        refine hK.out _ _ (by (first | with_reducible exact HX.out _ G1 | with_reducible exact HX.out _ GA2.out | with_reducible exact HX.out _ G3 | with_reducible exact HX.out _ GB4.out | with_reducible exact HKA _ | with_reducible exact HKB _ _ _ _ _)) (fun hHeld => ?_)
        clear hK K
        (try simp only [Act.put, List.setIfInBounds_toArray, List.set_cons_zero, List.set_cons_succ])
        refine wpAnyH_ready (rs := [4]) (by kernel_rfl) (by simp) ?_
        refine AllReadyH.cons (o := _) rfl (fun K hK => ?_) ?_
        · skip
          go_simp
          refine (rwire8_any t _).mono ?_
          rw [HW.out]
          rintro e5 W5 ⟨rfl, rfl⟩
          go_simp
          refine hK.out _ _ (by (first | with_reducible exact HX.out _ G1 | with_reducible exact HX.out _ GA2.out | with_reducible exact HX.out _ G3 | with_reducible exact HX.out _ GB4.out | with_reducible exact HKA _ | with_reducible exact HKB _ _ _ _ _)) (fun hHeld => ?_)
          clear hK K
          (try simp only [Act.put, List.setIfInBounds_toArray, List.set_cons_zero, List.set_cons_succ])
          refine wpAnyH_take (i := 8) (oi := _) (v := ?_) rfl (by kernel_rfl) (by kernel_rfl) (by kernel_rfl) (fun _ _ _ h => h) (Or.inl ⟨by rfl, ?_⟩) (by assumption) ?_
          rotate_left
          · (intro W hSw; obtain ⟨y0, y1⟩ := hSw; go_simp; try with_reducible rfl)
          (try simp only [Act.put, List.setIfInBounds_toArray])
          refine wpAnyH_ready (rs := [10]) (by kernel_rfl) (by simp) ?_
          refine AllReadyH.cons (o := _) rfl (fun K hK => ?_) AllReadyH.nil
          go_simp
          refine hK.out _ _ (by (first | with_reducible exact HX.out _ G1 | with_reducible exact HX.out _ GA2.out | with_reducible exact HX.out _ G3 | with_reducible exact HX.out _ GB4.out | with_reducible exact HKA _ | with_reducible exact HKB _ _ _ _ _)) (fun _ => ?_)
          clear hK K
          (try simp only [Act.put, List.setIfInBounds_toArray, List.set_cons_zero, List.set_cons_succ])
          refine wpAnyH_done (by kernel_rfl) ?_ _
          go_wp2_with fail
          go_meet
          first
            | with_reducible exact HXA.out
            | with_reducible exact HXB.out
        exact AllReadyH.nil
      exact AllReadyH.nil
    exact AllReadyH.nil
  case rest =>
    obtain ⟨p, v, rfl, hp, kf, hbv, hbs, gx⟩ := hcut
    have K6 := Lib.hid (K5.out.grew gx)
    have HG3 := Lib.hid (HG2.out.trans gx)
    clear d0 d1 K5
    have d1 := K6.out.cell 1
    simp only [List.getElem?_toArray, List.getElem?_cons_zero, List.getElem?_cons_succ] at d1
    obtain ⟨f0, f1, f2, f3, f4, z0, z1, z2, z3, z4⟩ := cells5 kf
    obtain ⟨av, nv, cv, rfl, hnv⟩ := bs_shape hbv
    have hpw : w.heap.size ≤ p := by have := HG2.out.size; omega
    have HPW := Lib.hid hpw
    have HBV := Lib.hid hbv
    have HBS := Lib.hid hbs
    have HKF := Lib.hid kf
    have HGN := Lib.hid (tmake_good HNB.out HWW.out.1)
    have HSL := Lib.hid (show (sB S).length ≤ 8000 from by have := HSS.out; have := sB_len S; omega)
    have HPG := Lib.hid (fun N' => putF_good (N := N') (b := sB S) (p := 0) HNB.out HWW.out.1 (by have := HSL.out; omega))
    have HOKN := Lib.hid (show -9223372036854775808 ≤ num ∧ num ≤ 9223372036854775807 from by have := HNB.out; omega)
    have KBY := Lib.hid (fun N' W' (hN' : N' < 18446744073709551616) (h : Bs W' (.slice av nv cv) (sB S)) => r06bytes_any (num, W, N', sB S, 0) (.slice av nv cv) W' ⟨HOKN.out.1, HOKN.out.2, HWW.out.2, hN'⟩ HGN.out h (by show (sB S).length ≤ _; have := HSL.out; omega))
    clear gx hbv hbs hp kf hpw
    by_cases h3 : t = 3
    · subst h3
      have hf := HFH.out (by decide)
      rw [if_pos rfl] at hf
      have HF := Lib.hid hf
      have hzl := zigN_wrap_lt N
      obtain ⟨Z, hZ⟩ : ∃ Z, Z = zigN (wrap64 (N : Int)) := ⟨_, rfl⟩
      have HZ := Lib.hid hZ
      rw [← hZ] at hf hzl HF
      have KBZ := Lib.hid (fun W' h => KBY.out Z W' hzl h)
      have HPZ := Lib.hid (HPG.out Z)
      clear hf hzl hZ
      go_wp2_with fail
      refine (rzig_any (wrap64 N) (by unfold wrap64; omega) (by unfold wrap64; omega) _).mono ?_
      rw [← HZ.out]
      rintro e w4 ⟨rfl, rfl⟩
      have HS4 := Lib.hid (HBS.out 2 (.int .u64 (Z : Nat)))
      have GS := Lib.hid (grew_set (b := p) (j := 2) HG3.out HPW.out (.int .u64 (Z : Nat)))
      go_wp2_with fail
      refine (KBZ.out _ HS4.out).mono ?_
      rintro e w5 ⟨v5, rfl, ho5, g5⟩
      obtain ⟨a5, n5, c5, rfl, hn5⟩ := bs_shape (Sl.of_own ho5)
      have HO5 := Lib.hid (own_mono (base' := w.heap.size) ho5 GS.out.size)
      have HG5 := Lib.hid (Grew.trans GS.out g5)
      clear ho5 g5
      go_wp2
      go_ret
      rw [HF.out, ← HPZ.out]
      exact ⟨_, rfl, HO5.out, HG5.out⟩
    have s3 : (t == 3) = false := by simpa using h3
    by_cases h10 : t = 10
    · subst h10
      obtain ⟨rfl, rfl, e9⟩ := HS10.out rfl
      cases e9
      have hw2 : W = 2 := by have := HW.out; rw [show rwireV 10 = 2 from rfl] at this; omega
      subst hw2
      have HF := Lib.hid (HFL.out rfl)
      obtain ⟨aa, ca, eaa, -, -, -, hc⟩ := HL.out.open
      cases eaa
      have HC := Lib.hid (fun h : 0 < m.l.length => hc (by simpa using h))
      have HLS := Lib.hid HSM.out.1
      have hle := HSM.out.2
      have hli : (m.l.length : Int) ≤ 70 := by omega
      obtain ⟨L, hL⟩ : ∃ L, L = m.l := ⟨_, rfl⟩
      have KF := Lib.hid (fun s (hs : s.size ≤ 200) v W' h => r06bytes_any (num, 2, 0, sB s, 0) v W' ⟨HOKN.out.1, HOKN.out.2, by show (2 : Nat) < 256; omega, by show (0 : Nat) < _; omega⟩ HGN.out h (by show (sB s).length ≤ _; rw [sB_len]; omega))
      have KPF := Lib.hid (fun s (hs : s.size ≤ 200) => putF_good (num := num) (W := 2) (N := 0) (b := sB s) (p := 0) HNB.out HWW.out.1 (by rw [sB_len]; omega))
      have KPB := Lib.hid (fun s => putF_len (x := (num, 2, 0, sB s, 0)) ⟨HOKN.out.1, HOKN.out.2, by show (2 : Nat) < 256; omega, by show (0 : Nat) < _; omega⟩)
      clear hc h3
      go_wp2
      go_loopw [9, 10] (fun vo i wr => ∃ (k : Nat) (dv : Value), k ≤ m.l.length ∧ i = .int .i64 k ∧ RowKit.Hid ((listF num (m.l.take k)).length ≤ k * 8212) ∧ OwnB wr w.heap.size vo (listF num (m.l.take k)) ∧ Blk wr p 101 #[.int .i64 num, .int .u8 2, .int .u64 0, dv, .int .i64 0] ∧ Grew w wr) (fun _ i _ => m.l.length - (intOf i).toNat)
      case atStart => exact ⟨0, _, Nat.zero_le _, rfl, Lib.hid (Nat.zero_le _), ownB_nil _ _, HKF.out, HG3.out⟩
      case round =>
        obtain ⟨k, dv, hk, rfl, hpl, ho, hF, hG⟩ := hrel
        clear d1 f0 f1 f2 f3 f4 z0 z1 z2 z3 z4
        obtain ⟨a8, n8, c8, rfl, hn8⟩ := bs_shape (Sl.of_own ho)
        have HO := Lib.hid ho
        have HGR := Lib.hid hG
        have HFR := Lib.hid hF
        clear ho
        by_cases hlt : k < m.l.length
        · obtain ⟨b, o, rfl, hcl⟩ := HC.out (by omega)
          have x0 := (below_ext hG) _ _ (hcl k _ (tx_get m.l k hlt))
          have hs := List.take_succ_eq_append_getElem hlt
          have hms := HLS.out _ (List.getElem_mem hlt)
          generalize m.l[k] = s at x0 hs hms
          have hpre : listF num (m.l.take (k + 1)) = listF num (m.l.take k) ++ (putF (num, 2, 0, sB s, 0)).1 := by
            rw [hs, listF_app]; show _ ++ (_ ++ []) = _; rw [List.append_nil]
          obtain ⟨cc, hcv, hbs, gcv⟩ := conv_str s wr (by omega)
          have hFc := hF.grew gcv
          have hlz := HFR.out.lt
          have HB := Lib.hid (bs_other (p := p) (j := 3) (u := .slice (some ⟨wr.heap.size, 0, none⟩) s.size cc) hbs (by omega))
          have HFS := Lib.hid (hFc.set 3 (.slice (some ⟨wr.heap.size, 0, none⟩) s.size cc))
          have HGS := Lib.hid (grew_set (b := p) (j := 3) (Grew.trans hG gcv) HPW.out (.slice (some ⟨wr.heap.size, 0, none⟩) s.size cc))
          have hne : Value.ownBlock (.slice a8 n8 c8) ≠ some p := fun e => blk_ne_row hFc (own_grew HO.out gcv) (by decide) e.symm
          have HOS := Lib.hid (own_set (own_grew HO.out gcv) ⟨p, 3, none⟩ (.slice (some ⟨wr.heap.size, 0, none⟩) s.size cc) hne)
          have HPRE := Lib.hid hpre
          have HPLS := Lib.hid (KPB.out s)
          have HMS := Lib.hid hms
          have HPG2 := Lib.hid (KPF.out s hms)
          obtain ⟨f0, f1, f2, f3, f4, z0, z1, z2, z3, z4⟩ := cells5 hFc
          have zi : (k : Int) < (m.l.length : Int) := by omega
          clear hcl hs hms hpre hbs gcv hFc hF hG hlz hne
          go_wp2_with fail
          refine (KF.out s HMS.out _ _ HB.out).mono ?_
          rw [HPG2.out]
          generalize (putF (num, 2, 0, sB s, 0)).1 = X at HPRE HPLS ⊢
          rintro e w6 ⟨v6, rfl, ho6, g6⟩
          obtain ⟨b6, m6, d6, rfl, hm6⟩ := bs_shape (Sl.of_own ho6)
          have HFS2 := Lib.hid (HFS.out.grew g6)
          have HG2' := Lib.hid (Grew.trans HGS.out g6)
          have KJ := Lib.hid (join_any (listF num (m.l.take k)) X _ _ w6 (Sl.of_own (own_grew HOS.out g6)) (Sl.of_own ho6) (by have := hpl.out; have := HPLS.out; omega))
          clear f0 f1 f2 f3 f4 z0 z1 z2 z3 z4 x0 hcv ho6 g6
          go_wp2_with fail
          refine KJ.out.mono ?_
          rintro e w7 ⟨v7, rfl, ho7, g7⟩
          obtain ⟨b7, m7, d7, rfl, hm7⟩ := bs_shape (Sl.of_own ho7)
          have HO7 := Lib.hid (own_mono (base' := w.heap.size) ho7 HG2'.out.size)
          have HFS3 := Lib.hid (HFS2.out.grew g7)
          have HG7 := Lib.hid (Grew.trans HG2'.out g7)
          clear ho7 g7
          go_wp2
          refine ⟨⟨k + 1, _, by omega, by go_num, Lib.hid (by rw [HPRE.out, List.length_append]; have := hpl.out; have := HPLS.out; omega), by rw [HPRE.out]; exact HO7.out, HFS3.out, HG7.out⟩, ?_⟩
          simp [intOf]; omega
        · obtain rfl : k = m.l.length := by omega
          have ho9 := HO.out
          rw [List.take_length] at ho9
          have HO9 := Lib.hid ho9
          clear ho9 hF hG
          go_wp2
          go_ret
          rw [HF.out]
          exact ⟨_, rfl, HO9.out, HGR.out⟩
    · have hf := HFH.out h10
      rw [if_neg h3] at hf
      have HF := Lib.hid hf
      have s10 : (t != 10) = true := by simpa using h10
      have KBZ := Lib.hid (fun W' h => KBY.out N W' HNN.out h)
      have HPZ := Lib.hid (HPG.out N)
      clear hf h3 h10
      go_wp2_with fail
      refine (KBZ.out _ HBV.out).mono ?_
      rintro e w5 ⟨v5, rfl, ho5, g5⟩
      obtain ⟨a5, n5, c5, rfl, hn5⟩ := bs_shape (Sl.of_own ho5)
      have HO5 := Lib.hid (own_mono (base' := w.heap.size) ho5 HG3.out.size)
      have HG5 := Lib.hid (HG3.out.trans g5)
      clear ho5 g5
      go_wp2
      go_ret
      rw [HF.out, ← HPZ.out]
      exact ⟨_, rfl, HO5.out, HG5.out⟩
set_option maxRecDepth 10000 in
/-- rescriptref10.Field -/
theorem r10field_any (m : Msg) (a : Option Addr) (c : Nat) (num t sl : Int) (w : World) (hs : smallB m = true) (hn : ∀ i, i < 6 → m.n i < 18446744073709551616) (hl : Tx w (.slice a m.l.length c) m.l) :
    Calls Tryz.prog 39 #[.agg (msgA m (.slice a m.l.length c)), .agg #[.int .i64 num, .int .i64 t, .int .i64 sl]] w (FldP m num t sl w) := by
  by_cases hnum : num < 1 ∨ 536870911 < num
  · exact r10field_bad m a c num t sl w (.inr hnum)
  cases hd : defB m t sl with
  | true => exact r10field_bad m a c num t sl w (.inl hd)
  | false => exact r10field_good m a c num t sl w hd hnum hs hn hl
end Go.Proofs.YtbjoohafgkodcaaGreat
namespace Go.Proofs.YtbjoohafgkodcaaGreat
open Go Go.RowKit Go.Shelf
attribute [local go_sem] Oper.semAt_some

set_option maxRecDepth 100000 in
set_option maxHeartbeats 8000000 in
theorem r10bytes_any (m : Msg) (a : Option Addr) (c : Nat) (ver : Int) (w : World) (hs : smallB m = true) (hn : ∀ i, i < 6 → m.n i < 18446744073709551616) (hl : Tx w (.slice a m.l.length c) m.l) :
    Calls Tryz.prog 16 #[.agg (msgA m (.slice a m.l.length c)), .int .i64 ver] w fun e w' => ∃ v', e = .returned (.tuple #[v', fltV (chkM m (ofKind m.k (rowsIn ver)))]) ∧ OwnB w' w.heap.size v' (msgB m (ofKind m.k (rowsIn ver))) ∧ Grew w w' := by
  have hm := small_ok hs hn
  have HM := Lib.hid hm
  have KC := Lib.hid (fun W g => rcheck9_any m (.slice a m.l.length c) ver W (okE_okM hm) (hl.grew (g : Grew w W)))
  have HL := Lib.hid hl
  have KO := Lib.hid (fun W => rof_any m.k ver W)
  have hle := ofKind_le m.k ver
  have hnm := fun r (h : r ∈ ofKind m.k (rowsIn ver)) => nm_ok h
  generalize ofKind m.k (rowsIn ver) = L at KC KO hle hnm ⊢
  have HNM := Lib.hid hnm
  have HLE := Lib.hid hle
  have KFd := Lib.hid (fun nm t sl W g => r10field_any m a c nm t sl W hs hn (hl.grew (g : Grew w W)))
  obtain ⟨W0, hW0⟩ : ∃ W0, W0 = (w.alloc (.cells (msgA m (.slice a m.l.length c)) 29)).alloc (.cells #[.int .i64 0, .int .i64 0] 32) := ⟨_, rfl⟩
  have hg0 : Grew w W0 := by rw [hW0]; exact grew2 _ _ _
  have k1 : Blk W0 w.heap.size 29 (msgA m (.slice a m.l.length c)) := by rw [hW0]; exact (Blk.new _ _ _).alloc _
  have k2 : Blk W0 (w.heap.size + 1) 32 #[.int .i64 0, .int .i64 0] := by rw [hW0]; exact Blk.new2 _ _ _ _
  have K1 := Lib.hid k1
  have K2 := Lib.hid k2
  have HG := Lib.hid hg0
  simp only [msgA] at hW0 KC KFd ⊢
  clear hl hm hle hnm k1 k2 hg0 hs hn
  go_enter Tryz.func16, Tryz.ntmps16
  go_wp2_with fail
  rw [← hW0]
  refine (KC.out _ HG.out).mono ?_
  obtain ⟨E, hE⟩ : ∃ E, E = chkM m L := ⟨_, rfl⟩
  have HE := Lib.hid hE
  rw [← hE]
  clear hE hW0
  rintro e w1 ⟨rfl, g1⟩
  simp only [fltV]
  obtain ⟨w4, hw4⟩ : ∃ w4, w4 = w1.alloc (.cells #[.int .i64 (E.1 : Nat), .int .i64 (E.2 : Nat)] 32) := ⟨_, rfl⟩
  have g4 : Grew w1 w4 := by rw [hw4]; exact grew_alloc _ _
  have kf : Blk w4 w1.heap.size 32 #[.int .i64 (E.1 : Nat), .int .i64 (E.2 : Nat)] := by rw [hw4]; exact Blk.new _ _ _
  have H4 := Lib.hid ((HG.out.trans g1).trans g4)
  have K14 := Lib.hid ((K1.out.grew g1).grew g4)
  have K24 := Lib.hid ((K2.out.grew g1).grew g4)
  have KF := Lib.hid kf
  clear g1 g4 kf
  go_upto_region 2 with (fail)
  rw [← hw4]
  clear hw4
  obtain ⟨f0, f1, -, -⟩ := cells_of KF.out
  by_cases he : E.1 ≠ 0
  · have hne : ((E.1 : Int) != 0) = true := by simp; omega
    have hmb : msgB m L = [] := by unfold msgB; rw [if_pos (by rw [← HE.out]; exact he)]
    have HMB := Lib.hid hmb
    obtain ⟨q0, q1, q2, q3⟩ := cells_of K24.out
    clear he hmb
    go_wp2
    go_region
    all_goals (
      go_wp2
      have r1 := ((K24.out.drew.set 0 (.int .i64 (E.1 : Nat))).set 1 (.int .i64 (E.2 : Nat)))
      refine bodyPost_ret (results_tc rfl _ _ ⟨w.heap.size + 1, 0, none⟩ _ _ rfl rfl (loadVar_fault _ _ _ rfl r1)) rfl ?_
      rw [HMB.out, ← HE.out]
      exact ⟨_, rfl, ownB_nil _ _, grew_set (grew_set (Grew.trans H4.out (Drew.grew ⟨1, rfl⟩)) (by omega) _) (by omega) _⟩)
  · have hne : ((E.1 : Int) != 0) = false := by simp; omega
    obtain ⟨e1, e2⟩ := E
    obtain rfl : e1 = 0 := by simpa using he
    have hE2 := chk_z (m := m) (l := L) (by rw [← HE.out])
    rw [← HE.out] at hE2
    obtain rfl : e2 = 0 := by cases hE2; rfl
    have hmb : msgB m L = (L.map (fR m)).flatten := by unfold msgB; rw [if_neg (by rw [← HE.out]; simp)]
    have HMB := Lib.hid hmb
    obtain ⟨c0, c1', c2, c3, c4, c5, c6, c7, c8, c9⟩ := mcells K14.out
    clear he hE2 hmb
    go_wp2_with fail
    refine (KO.out _).mono ?_
    rintro e w5 ⟨v5, rfl, r5, g5⟩
    obtain ⟨a5, c5', rfl, -, -, -, -⟩ := (Sl.of_own r5).open
    have H5 := Lib.hid (H4.out.trans g5)
    have K5 := Lib.hid (K14.out.grew g5)
    have K25 := Lib.hid (K24.out.grew g5)
    have R5 := Lib.hid r5
    clear c0 c1' c2 c3 c4 c5 c6 c7 c8 c9 f0 f1 r5 g5
    have hli : (L.length : Int) ≤ 40 := by have := HLE.out; omega
    go_wp2
    go_loopw [7, 9] (fun vo i wr => ∃ k : Nat, k ≤ L.length ∧ i = .int .i64 k ∧ RowKit.Hid (((L.take k).map (fR m)).flatten.length ≤ k * 8212000) ∧ OwnB wr w5.heap.size vo ((L.take k).map (fR m)).flatten ∧ Grew w5 wr) (fun _ i _ => L.length - (intOf i).toNat)
    case atStart => exact ⟨0, Nat.zero_le _, rfl, Lib.hid (Nat.zero_le _), ownB_nil _ _, Below.refl _ _⟩
    case round =>
      obtain ⟨k, hk, rfl, hpl, ho, hG⟩ := hrel
      obtain ⟨a9, n9, c9, rfl, hn9⟩ := bs_shape (Sl.of_own ho)
      have HO := Lib.hid ho
      have HGR := Lib.hid hG
      clear ho
      by_cases hlt : k < L.length
      · obtain ⟨a', c', e, -, -, -, hcc⟩ := (Sl.of_own R5.out).open
        cases e
        obtain ⟨b, o, rfl, hcl5⟩ := hcc (by omega)
        have hf := fun j hj => flat_get (f := specV) (k := 3) (fun _ => rfl) L k hlt j hj
        have z0 := hcl5 _ _ (hf 0 (by omega))
        have z1 := hcl5 _ _ (hf 1 (by omega))
        have z2 := hcl5 _ _ (hf 2 (by omega))
        simp only [Nat.add_zero, ← Nat.add_assoc] at z0 z1 z2
        have hnx : ((L.take (k + 1)).map (fR m)).flatten = ((L.take k).map (fR m)).flatten ++ fR m L[k] := by rw [List.take_succ_eq_append_getElem hlt, List.map_append, List.flatten_append]; show _ ++ (_ ++ []) = _; rw [List.append_nil]
        have hnm : ((L[k]).2.1 : Int) ≤ 9223372036854775807 := HNM.out _ (List.getElem_mem hlt)
        generalize L[k] = r at z0 z1 z2 hnx hnm
        obtain ⟨kd, nm, ty, sl, si⟩ := r
        have HX : RowKit.Hid (∀ W, Grew w5 W → W.cell? ⟨b, o + k * 3, none⟩ = some (.int .i64 nm) ∧ W.cell? ⟨b, o + k * 3 + 1, none⟩ = some (.int .i64 ty) ∧ W.cell? ⟨b, o + k * 3 + 2, none⟩ = some (.int .i64 sl)) := Lib.hid fun W g => ⟨(below_ext g) _ _ z0, (below_ext g) _ _ z1, (below_ext g) _ _ z2⟩
        clear z0 z1 z2 hcl5
        have KF1 := Lib.hid (fun W g => KFd.out nm ty sl W g)
        have HLN := Lib.hid (fieldF_len (t := (ty : Int)) (sl := (sl : Int)) HM.out ⟨by omega, hnm⟩)
        have HNX := Lib.hid hnx
        have zi : (k : Int) < (L.length : Int) := by omega
        clear hf hcc hnx hnm hG
        go_upto_region 9 with (fail)
        refine wp_region_held_drew (S := fun W => Grew w5 W) (by kernel_rfl) (Grew.trans HGR.out (Drew.grew ⟨1, rfl⟩)) (fun hHeld => ?_)
        refine wpAnyH_take (i := 0) (oi := _) (v := ?_) rfl (by kernel_rfl) (by kernel_rfl) (by kernel_rfl) (fun _ _ _ h => h) (Or.inl ⟨by rfl, ?_⟩) (by assumption) ?_
        rotate_left
        · (intro W hSw; obtain ⟨c0, c1', c2, c3, c4, c5, c6, c7, c8, c9'⟩ := mcells (K5.out.grew hSw); have y0 := HX.out W hSw; obtain ⟨y0, y1, y2⟩ := y0; go_simp; try with_reducible rfl)
        simp only [Act.put, List.setIfInBounds_toArray]
        refine wpAnyH_take (i := 1) (oi := _) (v := ?_) rfl (by kernel_rfl) (by kernel_rfl) (by kernel_rfl) (fun _ _ _ h => h) (Or.inl ⟨by rfl, ?_⟩) (by assumption) ?_
        rotate_left
        · (intro W hSw; obtain ⟨c0, c1', c2, c3, c4, c5, c6, c7, c8, c9'⟩ := mcells (K5.out.grew hSw); have y0 := HX.out W hSw; obtain ⟨y0, y1, y2⟩ := y0; go_simp; try with_reducible rfl)
        simp only [Act.put]
        refine wpAnyH_take (i := 2) (oi := _) (v := ?_) rfl (by kernel_rfl) (by kernel_rfl) (by kernel_rfl) (fun _ _ _ h => h) (Or.inl ⟨by rfl, ?_⟩) (by assumption) ?_
        rotate_left
        · (intro W hSw; obtain ⟨c0, c1', c2, c3, c4, c5, c6, c7, c8, c9'⟩ := mcells (K5.out.grew hSw); have y0 := HX.out W hSw; obtain ⟨y0, y1, y2⟩ := y0; go_simp; try with_reducible rfl)
        simp only [Act.put]
        refine wpAnyH_take (i := 3) (oi := _) (v := ?_) rfl (by kernel_rfl) (by kernel_rfl) (by kernel_rfl) (fun _ _ _ h => h) (Or.inl ⟨by rfl, ?_⟩) (by assumption) ?_
        rotate_left
        · (intro W hSw; obtain ⟨c0, c1', c2, c3, c4, c5, c6, c7, c8, c9'⟩ := mcells (K5.out.grew hSw); have y0 := HX.out W hSw; obtain ⟨y0, y1, y2⟩ := y0; go_simp; try with_reducible rfl)
        simp only [Act.put]
        refine wpAnyH_take (i := 4) (oi := _) (v := ?_) rfl (by kernel_rfl) (by kernel_rfl) (by kernel_rfl) (fun _ _ _ h => h) (Or.inl ⟨by rfl, ?_⟩) (by assumption) ?_
        rotate_left
        · (intro W hSw; obtain ⟨c0, c1', c2, c3, c4, c5, c6, c7, c8, c9'⟩ := mcells (K5.out.grew hSw); have y0 := HX.out W hSw; obtain ⟨y0, y1, y2⟩ := y0; go_simp; try with_reducible rfl)
        simp only [Act.put]
        refine wpAnyH_take (i := 5) (oi := _) (v := ?_) rfl (by kernel_rfl) (by kernel_rfl) (by kernel_rfl) (fun _ _ _ h => h) (Or.inl ⟨by rfl, ?_⟩) (by assumption) ?_
        rotate_left
        · (intro W hSw; obtain ⟨c0, c1', c2, c3, c4, c5, c6, c7, c8, c9'⟩ := mcells (K5.out.grew hSw); have y0 := HX.out W hSw; obtain ⟨y0, y1, y2⟩ := y0; go_simp; try with_reducible rfl)
        simp only [Act.put]
        refine wpAnyH_ready (rs := [6]) (by kernel_rfl) (by simp) ?_
        refine AllReadyH.cons (o := _) rfl (fun K hK => ?_) AllReadyH.nil
        go_simp
        have gd : Grew wr wr.drew := Drew.grew ⟨1, rfl⟩
        refine (KF1.out _ ((H5.out.trans HGR.out).trans gd)).mono ?_
        have HLN2 := Lib.hid (show (fR m (kd, nm, ty, sl, si)).length ≤ 8212000 from HLN.out)
        rintro e w6 ⟨v6, rfl, ho6, g6⟩
        replace ho6 : OwnB w6 _ v6 (fR m (kd, nm, ty, sl, si)) := ho6
        obtain ⟨a6, n6, c6, rfl, hn6⟩ := bs_shape (Sl.of_own ho6)
        generalize fR m (kd, nm, ty, sl, si) = X at HLN2 HNX ho6
        have H6 := Lib.hid ((HGR.out.trans gd).trans g6)
        have KJ := Lib.hid (join_any ((L.take k).map (fR m)).flatten X _ _ w6 (Sl.of_own (own_grew HO.out (gd.trans g6))) (Sl.of_own ho6) (by have := hpl.out; have := HLN2.out; have := HLE.out; omega))
        have HSZ := Lib.hid H6.out.size
        clear ho6 g6 gd KF1 HLN hHeld
        go_simp
        refine hK.out _ _ H6.out (fun _ => ?_)
        clear hK K
        (try simp only [Act.put, List.setIfInBounds_toArray, List.set_cons_zero, List.set_cons_succ])
        refine wpAnyH_ready (rs := [7]) (by kernel_rfl) (by simp) ?_
        refine AllReadyH.cons (o := _) rfl (fun K hK => ?_) AllReadyH.nil
        go_simp
        refine KJ.out.mono ?_
        rintro e w7 ⟨v7, rfl, ho7, g7⟩
        obtain ⟨a7, n7, c7, rfl, hn7⟩ := bs_shape (Sl.of_own ho7)
        have HO7 := Lib.hid (own_mono (base' := w5.heap.size) ho7 HSZ.out)
        have hg7 : Grew w5 w7 := Grew.trans H6.out g7
        clear ho7
        go_simp
        refine hK.out _ _ hg7 (fun _ => ?_)
        clear hK K
        (try simp only [Act.put, List.setIfInBounds_toArray, List.set_cons_zero, List.set_cons_succ])
        refine wpAnyH_take (i := 8) (oi := _) (v := ?_) rfl (by kernel_rfl) (by kernel_rfl) (by kernel_rfl) (fun _ _ _ h => h) (Or.inl ⟨by rfl, ?_⟩) (by assumption) ?_
        rotate_left
        · (intro W hSw; go_simp; try with_reducible rfl)
        simp only [Act.put]
        refine wpAnyH_done (by kernel_rfl) ?_ _
        go_wp2
        refine ⟨⟨k + 1, by omega, by go_num, Lib.hid (by rw [HNX.out, List.length_append]; have := hpl.out; have := HLN2.out; omega), by rw [HNX.out]; exact HO7.out, hg7⟩, ?_⟩
        simp [intOf]; omega
      · obtain rfl : k = L.length := by omega
        have ho9 := HO.out
        rw [List.take_length, ← HMB.out] at ho9
        have KE := Lib.hid (K25.out.grew hG)
        have HO9 := Lib.hid (own_mono (base' := w.heap.size) ho9 H5.out.size)
        obtain ⟨q0, q1, q2, q3⟩ := cells_of KE.out
        clear ho9
        go_wp2
        have r1 := (KE.out.set 0 (.int .i64 0)).set 1 (.int .i64 0)
        have ho10 := own_set (own_set HO9.out ⟨w.heap.size + 1, 0, none⟩ (.int .i64 0) (fun e => blk_ne_row KE.out HO9.out (by decide) e.symm)) ⟨w.heap.size + 1, 1, none⟩ (.int .i64 0) (fun e => blk_ne_row KE.out HO9.out (by decide) e.symm)
        refine bodyPost_ret (results_tc rfl _ _ ⟨w.heap.size + 1, 0, none⟩ _ _ rfl rfl (loadVar_fault _ _ _ rfl r1)) rfl ?_
        rw [← HE.out]
        exact ⟨_, rfl, ho10, grew_set (grew_set (Grew.trans H5.out hG) (by omega) _) (by omega) _⟩
end Go.Proofs.YtbjoohafgkodcaaGreat
