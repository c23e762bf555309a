/- encode.Field: contract. -/
import Derived.Test.YtbjoohafgkodcaaGreatEn1
import Derived.Test.YtbjoohafgkodcaaGreatVa1
import Derived.Test.YtbjoohafgkodcaaGreatVa3
import Derived.Test.YtbjoohafgkodcaaGreatSchP
namespace Go.Proofs.YtbjoohafgkodcaaGreat
open Go Go.RowKit Go.Shelf
attribute [local go_sem] Oper.semAt_some

/-- a message whose texts are not too long -/
def okE (m : Msg) : Prop := (∀ i, i < 2 → (m.s i).size ≤ 1000000) ∧ (∀ s ∈ m.l, s.size ≤ 1000000) ∧ m.l.length ≤ 1000 ∧ ∀ i, i < 6 → m.n i < 18446744073709551616
/-- the fields of a list of texts -/
def listF (num : Int) : List ByteArray → List UInt8
  | [] => []
  | s :: l => (putF (num, 2, 0, sB s, 0)).1 ++ listF num l
theorem listF_app (num : Int) (a b : List ByteArray) : listF num (a ++ b) = listF num a ++ listF num b := by
  induction a with
  | nil => rfl
  | cons s l ih => show _ ++ listF num (l ++ b) = (_ ++ listF num l) ++ listF num b; rw [ih, List.append_assoc]
/-- the bytes of a message's field -/
def fieldF (m : Msg) (num t sl : Int) : List UInt8 :=
  if (wireV t).2 = false ∨ defB m t sl = true then []
  else if t = 3 then (putF (num, 0, zigN (intV m sl), [], 0)).1
  else if numB t = true then (putF (num, (wireV t).1.toNat, m.n sl.toNat, [], 0)).1
  else if txtB t = true then (putF (num, 2, 0, sB (m.s sl.toNat), 0)).1
  else listF num m.l
theorem wireV_ok {t : Int} (h : (wireV t).2 = true) : (numB t = true ∧ (wireV t).1.toNat < 256 ∧ 0 ≤ (wireV t).1) ∨ (txtB t = true ∧ (wireV t).1 = 2) ∨ (t = 10 ∧ (wireV t).1 = 2) := by
  by_cases h1 : 1 ≤ t ∧ t ≤ 10
  · rcases (show t = 1 ∨ t = 2 ∨ t = 3 ∨ t = 4 ∨ t = 5 ∨ t = 6 ∨ t = 7 ∨ t = 8 ∨ t = 9 ∨ t = 10 by omega) with rfl | rfl | rfl | rfl | rfl | rfl | rfl | rfl | rfl | rfl <;> decide
  · exfalso
    have hw : wireV t = (0, false) := by unfold wireV; simp only [show t ≠ 1 by omega, show t ≠ 2 by omega, show t ≠ 3 by omega, show t ≠ 4 by omega, show t ≠ 5 by omega, show t ≠ 6 by omega, show t ≠ 7 by omega, show t ≠ 8 by omega, show t ≠ 9 by omega, show t ≠ 10 by omega]; simp
    rw [hw] at h; cases h
theorem mcells {W : World} {b : Nat} {t : TypeId} {m : Msg} {lv : Value} (h : Blk W b t (msgA m lv)) :
    W.cell? ⟨b, 0, none⟩ = some (.int .u8 m.k) ∧ W.cell? ⟨b, 1, none⟩ = some (.int .u64 (m.n 0)) ∧ W.cell? ⟨b, 2, none⟩ = some (.int .u64 (m.n 1)) ∧ W.cell? ⟨b, 3, none⟩ = some (.int .u64 (m.n 2)) ∧ W.cell? ⟨b, 4, none⟩ = some (.int .u64 (m.n 3)) ∧
    W.cell? ⟨b, 5, none⟩ = some (.int .u64 (m.n 4)) ∧ W.cell? ⟨b, 6, none⟩ = some (.int .u64 (m.n 5)) ∧ W.cell? ⟨b, 7, none⟩ = some (.string (m.s 0)) ∧ W.cell? ⟨b, 8, none⟩ = some (.string (m.s 1)) ∧ W.cell? ⟨b, 9, none⟩ = some lv := by
  refine ⟨?_, ?_, ?_, ?_, ?_, ?_, ?_, ?_, ?_, ?_⟩ <;> (rw [h.cell]; rfl)
theorem bs_other {w : World} {b n c p j : Nat} {l : List UInt8} {u : Value} (h : Bs w (.slice (some ⟨b, 0, none⟩) n c) l) (hne : p ≠ b) : Bs (w.setCell ⟨p, j, none⟩ u) (.slice (some ⟨b, 0, none⟩) n c) l :=
  Sl.fr (S := fun i => i = p) h (Fr.set (Fr.refl _ _) p j u fun _ => rfl) fun g hg _ e => by cases hg; exact hne e.symm
theorem bs_nil (w : World) : Bs w (.slice none 0 0) [] := ⟨by simp, none, 0, rfl, Nat.zero_le _, Nat.zero_le _, fun _ => rfl, fun a h => by cases h⟩
def specA (num t sl : Int) : Array Value := #[.int .i64 num, .int .i64 t, .int .i64 sl]
def FldP (m : Msg) (num t sl : Int) (w : World) (e : Ending) (w' : World) : Prop := ∃ v', e = .returned v' ∧ OwnB w' w.heap.size v' (fieldF m num t sl) ∧ Grew w w'
set_option maxRecDepth 100000 in
set_option maxHeartbeats 4000000 in
theorem efield_none (m : Msg) (a : Option Addr) (c : Nat) (num t sl : Int) (w : World) (h : (wireV t).2 = false ∨ defB m t sl = true) :
    Calls Tryz.prog 84 #[.agg (msgA m (.slice a m.l.length c)), .agg #[.int .i64 num, .int .i64 t, .int .i64 sl]] w (FldP m num t sl w) := by
  have hf : fieldF m num t sl = [] := by unfold fieldF; rw [if_pos h]
  have HF := Lib.hid hf
  have KD := Lib.hid (fun W => default_any m a c num t sl W)
  have HG := Lib.hid (grew2 w (.cells (msgA m (.slice a m.l.length c)) 29) (.cells #[.int .i64 num, .int .i64 t, .int .i64 sl] 82))
  simp only [msgA] at KD HG ⊢
  unfold FldP
  clear hf
  cases hw : (wireV t).2 with
  | false =>
    have HW := Lib.hid hw
    clear hw h
    go_enter Tryz.func84, Tryz.ntmps84
    go_wp2_with fail
    refine (wire_any t _).mono ?_
    rw [HW.out]
    rintro e w1 ⟨rfl, rfl⟩
    go_wp2
    go_ret
    rw [HF.out]
    exact ⟨_, rfl, ownB_nil _ _, HG.out⟩
  | true =>
    have HD := Lib.hid (h.resolve_left (by rw [hw]; decide))
    have HW := Lib.hid hw
    clear hw h
    go_enter Tryz.func84, Tryz.ntmps84
    go_wp2_with fail
    refine (wire_any t _).mono ?_
    rw [HW.out]
    rintro e w1 ⟨rfl, rfl⟩
    go_wp2_with fail
    refine (KD.out _).mono ?_
    rw [HD.out]
    rintro e w1 ⟨rfl, g1⟩
    go_wp2
    go_ret
    rw [HF.out]
    exact ⟨_, rfl, ownB_nil _ _, HG.out.trans g1⟩
set_option maxRecDepth 100000 in
set_option maxHeartbeats 4000000 in
theorem efield_num (m : Msg) (a : Option Addr) (c : Nat) (num t sl : Int) (w : World) (hw : (wireV t).2 = true) (hd : defB m t sl = false) (ht : numB t = true) (h3 : t ≠ 3) (h0 : 0 ≤ sl) (h6 : sl < 6) (hm : okE m) (hn : -9223372036854775808 ≤ num ∧ num ≤ 9223372036854775807) :
    Calls Tryz.prog 84 #[.agg (msgA m (.slice a m.l.length c)), .agg #[.int .i64 num, .int .i64 t, .int .i64 sl]] w (FldP m num t sl w) := by
  have hf : fieldF m num t sl = (putF (num, (wireV t).1.toNat, m.n sl.toNat, [], 0)).1 := by unfold fieldF; rw [if_neg (by rw [hw, hd]; decide), if_neg h3, if_pos ht]
  have hk : (wireV t).1.toNat < 256 ∧ 0 ≤ (wireV t).1 := by
    rcases wireV_ok hw with ⟨-, h1, h2⟩ | ⟨-, h1⟩ | ⟨-, h1⟩
    · exact ⟨h1, h2⟩
    · rw [h1]; decide
    · rw [h1]; decide
  have hok : Fld.ok (num, (wireV t).1.toNat, m.n sl.toNat, [], 0) := ⟨hn.1, hn.2, hk.1, hm.2.2.2 _ (by omega)⟩
  obtain ⟨W, hW⟩ : ∃ W, W = (wireV t).1.toNat := ⟨_, rfl⟩
  have hWi : (wireV t).1 = (W : Int) := by rw [hW]; omega
  rw [← hW] at hf hok
  have KP := Lib.hid (fun w => eput_any (num, W, m.n sl.toNat, [], 0) (.slice none 0 0) w hok (bs_nil w) (Nat.zero_le _))
  have HF := Lib.hid hf
  have HW := Lib.hid (show wireV t = ((W : Int), true) from Prod.ext hWi hw)
  have HD := Lib.hid hd
  have KD := Lib.hid (fun W => default_any m a c num t sl W)
  obtain ⟨W0, hW0⟩ : ∃ W0, W0 = (w.alloc (.cells (msgA m (.slice a m.l.length c)) 29)).alloc (.cells #[.int .i64 num, .int .i64 t, .int .i64 sl] 82) := ⟨_, rfl⟩
  have hg0 : Grew w W0 := by rw [hW0]; exact grew2 _ _ _
  have hz0 : W0.heap.size = w.heap.size + 2 := by rw [hW0]; simp
  have k1 : Blk W0 w.heap.size 29 (msgA m (.slice a m.l.length c)) := by rw [hW0]; exact (Blk.new _ _ _).alloc _
  have k2 : Blk W0 (w.heap.size + 1) 82 #[.int .i64 num, .int .i64 t, .int .i64 sl] := by rw [hW0]; exact Blk.new2 _ _ _ _
  have K1 := Lib.hid k1
  have K2 := Lib.hid k2
  have HG := Lib.hid hg0
  have s3 : (t == 3) = false := by simpa using h3
  have s7 : (t == 7) = false := by have := num_facts ht; simp; omega
  have s8 : (t == 8) = false := by have := num_facts ht; simp; omega
  have s9 : (t == 9) = false := by have := num_facts ht; simp; omega
  have s10 : (t == 10) = false := by have := num_facts ht; simp; omega
  simp only [msgA] at KD K1 hW0 ⊢
  unfold FldP
  clear hf hw hd ht h3 hk hok hW hWi hg0 hz0 k1 k2 hm hn
  go_enter Tryz.func84, Tryz.ntmps84
  go_wp2_with fail
  refine (wire_any t _).mono ?_
  rw [HW.out]
  rintro e w1 ⟨rfl, rfl⟩
  go_wp2_with fail
  refine (KD.out _).mono ?_
  rw [HD.out]
  rintro e w1 ⟨rfl, g1⟩
  rw [← hW0] at g1
  obtain ⟨c0, c1', c2, c3, c4, c5, c6, c7, c8, c9⟩ := mcells (K1.out.grew g1)
  have d0 := (K2.out.grew g1).cell 0
  have d1 := (K2.out.grew g1).cell 1
  have d2 := (K2.out.grew g1).cell 2
  simp only [List.getElem?_toArray, List.getElem?_cons_zero, List.getElem?_cons_succ] at d0 d1 d2
  have HG1 := Lib.hid (HG.out.trans g1)
  have hz := g1.size
  have HZ := Lib.hid hz
  clear hW0 hz
  obtain ⟨wa, hwa⟩ : ∃ wa, wa = w1.alloc (.cells #[.int .i64 num, .int .u8 (W : Nat), .int .u64 0, .slice none 0 0, .int .i64 0] 101) := ⟨_, rfl⟩
  have ga : Grew w1 wa := by rw [hwa]; exact grew_alloc _ _
  have kf : Blk wa w1.heap.size 101 #[.int .i64 num, .int .u8 (W : Nat), .int .u64 0, .slice none 0 0, .int .i64 0] := by rw [hwa]; exact Blk.new _ _ _
  have KF := Lib.hid kf
  have G1 := Lib.hid g1
  have GA := Lib.hid ga
  clear ga kf g1
  go_upto_region 5 with (fail)
  rw [← hwa]
  clear c0 c1' c2 c3 c4 c5 c6 c7 c8 c9 d0 d1 d2 hwa
  obtain ⟨c0, c1', c2, c3, c4, c5, c6, c7, c8, c9⟩ := mcells ((K1.out.grew G1.out).grew GA.out)
  have d0 := ((K2.out.grew G1.out).grew GA.out).cell 0
  have d1 := ((K2.out.grew G1.out).grew GA.out).cell 1
  have d2 := ((K2.out.grew G1.out).grew GA.out).cell 2
  simp only [List.getElem?_toArray, List.getElem?_cons_zero, List.getElem?_cons_succ] at d0 d1 d2
  obtain ⟨f0, f1, f2, f3, f4, z0, z1, z2, z3, z4⟩ := cells5 KF.out
  rcases int6 h0 h6 with rfl | rfl | rfl | rfl | rfl | rfl
  all_goals (
    clear h0 h6
    go_wp2_with fail
    (refine (KP.out _).mono ?_)
    rintro e w2 ⟨v2, rfl, ho2, g2⟩
    have gs := grew_set (b := w1.heap.size) (j := 2) (HG1.out.trans GA.out) HG1.out.size
    obtain ⟨a2, n2, c2, rfl, hn2⟩ := bs_shape (Sl.of_own ho2)
    have HO := Lib.hid (own_mono (base' := w.heap.size) ho2 (gs _).size)
    have HS := Lib.hid (Grew.trans (gs _) g2)
    clear gs ho2 g2
    go_wp2
    go_ret
    rw [HF.out]
    exact ⟨_, rfl, HO.out, HS.out⟩)
set_option maxRecDepth 100000 in
set_option maxHeartbeats 4000000 in
theorem efield_sig (m : Msg) (a : Option Addr) (c : Nat) (num sl : Int) (w : World) (hd : defB m 3 sl = false) (hn : -9223372036854775808 ≤ num ∧ num ≤ 9223372036854775807) :
    Calls Tryz.prog 84 #[.agg (msgA m (.slice a m.l.length c)), .agg #[.int .i64 num, .int .i64 3, .int .i64 sl]] w (FldP m num 3 sl w) := by
  have hf : fieldF m num 3 sl = (putF (num, 0, zigN (intV m sl), [], 0)).1 := by unfold fieldF; rw [if_neg (by rw [hd]; decide), if_pos rfl]
  have hiv : -9223372036854775808 ≤ intV m sl ∧ intV m sl ≤ 9223372036854775807 := by unfold intV; split <;> (try unfold wrap64) <;> omega
  have hok : Fld.ok (num, 0, zigN (intV m sl), [], 0) := ⟨hn.1, hn.2, (by show (0:Nat) < 256; omega), zigN_lt hiv.1 hiv.2⟩
  have KP := Lib.hid (fun w => eput_any (num, 0, zigN (intV m sl), [], 0) (.slice none 0 0) w hok (bs_nil w) (Nat.zero_le _))
  have HIV := Lib.hid hiv
  have HF := Lib.hid hf
  have HD := Lib.hid hd
  have KD := Lib.hid (fun W => default_any m a c num 3 sl W)
  have KI := Lib.hid (fun W => vint_any m a c sl W)
  obtain ⟨W0, hW0⟩ : ∃ W0, W0 = (w.alloc (.cells (msgA m (.slice a m.l.length c)) 29)).alloc (.cells #[.int .i64 num, .int .i64 3, .int .i64 sl] 82) := ⟨_, rfl⟩
  have hg0 : Grew w W0 := by rw [hW0]; exact grew2 _ _ _
  have k1 : Blk W0 w.heap.size 29 (msgA m (.slice a m.l.length c)) := by rw [hW0]; exact (Blk.new _ _ _).alloc _
  have k2 : Blk W0 (w.heap.size + 1) 82 #[.int .i64 num, .int .i64 3, .int .i64 sl] := by rw [hW0]; exact Blk.new2 _ _ _ _
  have K1 := Lib.hid k1
  have K2 := Lib.hid k2
  have HG := Lib.hid hg0
  simp only [msgA] at KD KI K1 hW0 ⊢
  unfold FldP
  clear hf hd hok hg0 k1 k2 hn hiv
  go_enter Tryz.func84, Tryz.ntmps84
  go_wp2_with fail
  refine (wire_any 3 _).mono ?_
  rw [show wireV 3 = (0, true) from rfl]
  rintro e w1 ⟨rfl, rfl⟩
  go_wp2_with fail
  refine (KD.out _).mono ?_
  rw [HD.out]
  rintro e w1 ⟨rfl, g1⟩
  rw [← hW0] at g1
  obtain ⟨c0, c1', c2, c3, c4, c5, c6, c7, c8, c9⟩ := mcells (K1.out.grew g1)
  have d0 := (K2.out.grew g1).cell 0
  have d1 := (K2.out.grew g1).cell 1
  have d2 := (K2.out.grew g1).cell 2
  simp only [List.getElem?_toArray, List.getElem?_cons_zero, List.getElem?_cons_succ] at d0 d1 d2
  have HG1 := Lib.hid (HG.out.trans g1)
  clear hW0
  obtain ⟨wa, hwa⟩ : ∃ wa, wa = w1.alloc (.cells #[.int .i64 num, .int .u8 0, .int .u64 0, .slice none 0 0, .int .i64 0] 101) := ⟨_, rfl⟩
  have ga : Grew w1 wa := by rw [hwa]; exact grew_alloc _ _
  have kf : Blk wa w1.heap.size 101 #[.int .i64 num, .int .u8 0, .int .u64 0, .slice none 0 0, .int .i64 0] := by rw [hwa]; exact Blk.new _ _ _
  have KF := Lib.hid kf
  have G1 := Lib.hid g1
  have GA := Lib.hid ga
  clear ga kf g1
  go_upto_region 5 with (fail)
  rw [← hwa]
  clear c0 c1' c2 c3 c4 c5 c6 c7 c8 c9 d0 d1 d2 hwa
  obtain ⟨c0, c1', c2, c3, c4, c5, c6, c7, c8, c9⟩ := mcells ((K1.out.grew G1.out).grew GA.out)
  have d0 := ((K2.out.grew G1.out).grew GA.out).cell 0
  have d1 := ((K2.out.grew G1.out).grew GA.out).cell 1
  have d2 := ((K2.out.grew G1.out).grew GA.out).cell 2
  simp only [List.getElem?_toArray, List.getElem?_cons_zero, List.getElem?_cons_succ] at d0 d1 d2
  go_wp2_with fail
  refine (KI.out _).mono ?_
  rintro e wb ⟨rfl, gb⟩
  have hfb := KF.out.grew gb
  have GB := Lib.hid ((HG1.out.trans GA.out).trans gb)
  obtain ⟨f0, f1, f2, f3, f4, z0, z1, z2, z3, z4⟩ := cells5 hfb
  clear c0 c1' c2 c3 c4 c5 c6 c7 c8 c9 d0 d1 d2 gb hfb
  go_wp2_with fail
  refine (zig_any _ HIV.out.1 HIV.out.2 _).mono ?_
  rintro e w' ⟨rfl, rfl⟩
  go_wp2_with fail
  refine (KP.out _).mono ?_
  rintro e w2 ⟨v2, rfl, ho2, g2⟩
  have gs : Grew w (wb.setCell ⟨w1.heap.size, 2, none⟩ _) := grew_set (b := w1.heap.size) (j := 2) GB.out HG1.out.size (.int .u64 (zigN (intV m sl) : Nat))
  obtain ⟨a2, n2, c2, rfl, hn2⟩ := bs_shape (Sl.of_own ho2)
  have HO := Lib.hid (own_mono (base' := w.heap.size) ho2 gs.size)
  have HS := Lib.hid (gs.trans g2)
  clear gs ho2 g2
  go_wp2
  go_ret
  rw [HF.out]
  exact ⟨_, rfl, HO.out, HS.out⟩
set_option maxRecDepth 100000 in
set_option maxHeartbeats 4000000 in
theorem efield_txt (m : Msg) (a : Option Addr) (c : Nat) (num t sl : Int) (w : World) (hd : defB m t sl = false) (ht : t = 7 ∨ t = 8 ∨ t = 9) (hs : sl = 0 ∨ sl = 1) (hm : okE m) (hn : -9223372036854775808 ≤ num ∧ num ≤ 9223372036854775807) :
    Calls Tryz.prog 84 #[.agg (msgA m (.slice a m.l.length c)), .agg #[.int .i64 num, .int .i64 t, .int .i64 sl]] w (FldP m num t sl w) := by
  have hw : wireV t = (2, true) := by rcases ht with rfl | rfl | rfl <;> rfl
  have hf : fieldF m num t sl = (putF (num, 2, 0, sB (m.s sl.toNat), 0)).1 := by
    unfold fieldF
    rw [if_neg (by rw [hw, hd]; decide), if_neg (by omega), if_neg (by unfold numB; simp; omega), if_pos (by unfold txtB; simp; omega)]
  have hz : (m.s sl.toNat).size ≤ 1000000 := hm.1 _ (by omega)
  have hzl : (sB (m.s sl.toNat)).length ≤ 1000000 := by unfold sB; rw [Array.length_toList]; exact hz
  have hok : Fld.ok (num, 2, 0, sB (m.s sl.toNat), 0) := ⟨hn.1, hn.2, (by show (2:Nat) < 256; omega), (by show (0:Nat) < _; omega)⟩
  have KP := Lib.hid (fun v w h => eput_any (num, 2, 0, sB (m.s sl.toNat), 0) v w hok h (by show (sB _).length ≤ _; omega))
  have HZ := Lib.hid hz
  have HF := Lib.hid hf
  have HW := Lib.hid hw
  have HD := Lib.hid hd
  have KD := Lib.hid (fun W => default_any m a c num t sl W)
  clear hf hd hok hn hw hz hzl hm
  obtain ⟨W0, hW0⟩ : ∃ W0, W0 = (w.alloc (.cells (msgA m (.slice a m.l.length c)) 29)).alloc (.cells #[.int .i64 num, .int .i64 t, .int .i64 sl] 82) := ⟨_, rfl⟩
  have hg0 : Grew w W0 := by rw [hW0]; exact grew2 _ _ _
  have k1 : Blk W0 w.heap.size 29 (msgA m (.slice a m.l.length c)) := by rw [hW0]; exact (Blk.new _ _ _).alloc _
  have k2 : Blk W0 (w.heap.size + 1) 82 #[.int .i64 num, .int .i64 t, .int .i64 sl] := by rw [hW0]; exact Blk.new2 _ _ _ _
  have K1 := Lib.hid k1
  have K2 := Lib.hid k2
  have HG := Lib.hid hg0
  simp only [msgA] at KD K1 hW0 ⊢
  unfold FldP
  clear hg0 k1 k2
  go_enter Tryz.func84, Tryz.ntmps84
  go_wp2_with fail
  refine (wire_any t _).mono ?_
  rw [HW.out]
  rintro e w1 ⟨rfl, rfl⟩
  go_wp2_with fail
  refine (KD.out _).mono ?_
  rw [HD.out]
  rintro e w1 ⟨rfl, g1⟩
  rw [← hW0] at g1
  obtain ⟨c0, c1', c2, c3, c4, c5, c6, c7, c8, c9⟩ := mcells (K1.out.grew g1)
  have d0 := (K2.out.grew g1).cell 0
  have d1 := (K2.out.grew g1).cell 1
  have d2 := (K2.out.grew g1).cell 2
  simp only [List.getElem?_toArray, List.getElem?_cons_zero, List.getElem?_cons_succ] at d0 d1 d2
  have HG1 := Lib.hid (HG.out.trans g1)
  clear hW0
  obtain ⟨wa, hwa⟩ : ∃ wa, wa = w1.alloc (.cells #[.int .i64 num, .int .u8 2, .int .u64 0, .slice none 0 0, .int .i64 0] 101) := ⟨_, rfl⟩
  have ga : Grew w1 wa := by rw [hwa]; exact grew_alloc _ _
  have kf : Blk wa w1.heap.size 101 #[.int .i64 num, .int .u8 2, .int .u64 0, .slice none 0 0, .int .i64 0] := by rw [hwa]; exact Blk.new _ _ _
  have KF := Lib.hid kf
  have G1 := Lib.hid g1
  have GA := Lib.hid ga
  clear ga kf g1
  go_upto_region 5 with (fail)
  rw [← hwa]
  clear c0 c1' c2 c3 c4 c5 c6 c7 c8 c9 d0 d1 d2 hwa
  obtain ⟨c0, c1', c2, c3, c4, c5, c6, c7, c8, c9⟩ := mcells ((K1.out.grew G1.out).grew GA.out)
  have d0 := ((K2.out.grew G1.out).grew GA.out).cell 0
  have d1 := ((K2.out.grew G1.out).grew GA.out).cell 1
  have d2 := ((K2.out.grew G1.out).grew GA.out).cell 2
  simp only [List.getElem?_toArray, List.getElem?_cons_zero, List.getElem?_cons_succ] at d0 d1 d2
  obtain ⟨cc, hcv, hbs, gcv⟩ := conv_str (m.s sl.toNat) wa (by have := HZ.out; omega)
  have hwz := GA.out.size
  have hwz2 := KF.out.lt
  have kf2 := KF.out.grew gcv
  obtain ⟨f0, f1, f2, f3, f4, z0, z1, z2, z3, z4⟩ := cells5 kf2
  have gsz : w.heap.size ≤ w1.heap.size := HG1.out.size
  have hg9 : Grew w (Lib.bytesWorld wa 5 (m.s sl.toNat)) := (HG1.out.trans GA.out).trans gcv
  have HB := Lib.hid (bs_other (p := w1.heap.size) (j := 3) (u := .slice (some ⟨wa.heap.size, 0, none⟩) (m.s sl.toNat).size cc) hbs (by omega))
  have H9 := Lib.hid hg9
  clear hbs gcv kf2 hg9 hwz hwz2
  rcases hs with rfl | rfl
  all_goals (
    simp only [Int.toNat_zero, Int.toNat_one] at hcv f0 f1 f2 f3 f4 z0 z1 z2 z3 z4 KP HF H9 HB
    rcases ht with rfl | rfl | rfl
    all_goals (
      go_wp2_with fail
      (refine (KP.out _ _ HB.out).mono ?_)
      rintro e w2 ⟨v2, rfl, ho2, g2⟩
      have gs := fun v => grew_set (b := w1.heap.size) (j := 3) H9.out gsz v
      obtain ⟨a2, n2, c2, rfl, hn2⟩ := bs_shape (Sl.of_own ho2)
      have HO := Lib.hid (own_mono (base' := w.heap.size) ho2 (gs _).size)
      have HS := Lib.hid (Grew.trans (gs _) g2)
      clear gs ho2 g2
      go_wp2
      go_ret
      rw [HF.out]
      exact ⟨_, rfl, HO.out, HS.out⟩))
set_option maxRecDepth 100000 in
set_option maxHeartbeats 4000000 in
theorem efield_list (m : Msg) (a : Option Addr) (c : Nat) (num sl : Int) (w : World) (hd : defB m 10 sl = false) (hm : okE m) (hn : -9223372036854775808 ≤ num ∧ num ≤ 9223372036854775807) (hl : Tx w (.slice a m.l.length c) m.l) :
    Calls Tryz.prog 84 #[.agg (msgA m (.slice a m.l.length c)), .agg #[.int .i64 num, .int .i64 10, .int .i64 sl]] w (FldP m num 10 sl w) := by
  have hf : fieldF m num 10 sl = listF num m.l := by
    unfold fieldF
    rw [if_neg (by rw [hd]; decide), if_neg (by omega), if_neg (by decide), if_neg (by decide)]
  have HS := Lib.hid hm.2.1
  have hle := hm.2.2.1
  have hok : ∀ s, Fld.ok (num, 2, 0, sB s, 0) := fun s => ⟨hn.1, hn.2, (by show (2:Nat) < 256; omega), (by show (0:Nat) < _; omega)⟩
  have KP := Lib.hid (fun s (hs : s.size ≤ 1000000) v w h => eput_any (num, 2, 0, sB s, 0) v w (hok s) h (by show (sB _).length ≤ _; unfold sB; rw [Array.length_toList]; show s.size ≤ _; omega))
  have HOK := Lib.hid hok
  have HF := Lib.hid hf
  have HW := Lib.hid (show wireV 10 = (2, true) from rfl)
  have HD := Lib.hid hd
  have KD := Lib.hid (fun W => default_any m a c num 10 sl W)
  have HL := Lib.hid hl
  obtain ⟨aa, ca, eaa, -, -, -, hc⟩ := hl.open
  cases eaa
  have HC := Lib.hid (fun h : 0 < m.l.length => hc (by simpa using h))
  clear hf hd hok hn hm hl hc
  obtain ⟨W0, hW0⟩ : ∃ W0, W0 = (w.alloc (.cells (msgA m (.slice a m.l.length c)) 29)).alloc (.cells #[.int .i64 num, .int .i64 10, .int .i64 sl] 82) := ⟨_, rfl⟩
  have hg0 : Grew w W0 := by rw [hW0]; exact grew2 _ _ _
  have k1 : Blk W0 w.heap.size 29 (msgA m (.slice a m.l.length c)) := by rw [hW0]; exact (Blk.new _ _ _).alloc _
  have k2 : Blk W0 (w.heap.size + 1) 82 #[.int .i64 num, .int .i64 10, .int .i64 sl] := by rw [hW0]; exact Blk.new2 _ _ _ _
  have K1 := Lib.hid k1
  have K2 := Lib.hid k2
  have HG := Lib.hid hg0
  simp only [msgA] at KD K1 hW0 ⊢
  unfold FldP
  clear hg0 k1 k2
  go_enter Tryz.func84, Tryz.ntmps84
  go_wp2_with fail
  refine (wire_any 10 _).mono ?_
  rw [HW.out]
  rintro e w1 ⟨rfl, rfl⟩
  go_wp2_with fail
  refine (KD.out _).mono ?_
  rw [HD.out]
  rintro e w1 ⟨rfl, g1⟩
  rw [← hW0] at g1
  obtain ⟨c0, c1', c2, c3, c4, c5, c6, c7, c8, c9⟩ := mcells (K1.out.grew g1)
  have d0 := (K2.out.grew g1).cell 0
  have d1 := (K2.out.grew g1).cell 1
  have d2 := (K2.out.grew g1).cell 2
  simp only [List.getElem?_toArray, List.getElem?_cons_zero, List.getElem?_cons_succ] at d0 d1 d2
  have HG1 := Lib.hid (HG.out.trans g1)
  clear hW0
  obtain ⟨wa, hwa⟩ : ∃ wa, wa = w1.alloc (.cells #[.int .i64 num, .int .u8 2, .int .u64 0, .slice none 0 0, .int .i64 0] 101) := ⟨_, rfl⟩
  have ga : Grew w1 wa := by rw [hwa]; exact grew_alloc _ _
  have kf : Blk wa w1.heap.size 101 #[.int .i64 num, .int .u8 2, .int .u64 0, .slice none 0 0, .int .i64 0] := by rw [hwa]; exact Blk.new _ _ _
  have KF := Lib.hid kf
  have G1 := Lib.hid g1
  have GA := Lib.hid ga
  clear ga kf g1
  go_upto_region 5 with (fail)
  rw [← hwa]
  clear c0 c1' c2 c3 c4 c5 c6 c7 c8 c9 d0 d1 d2 hwa
  obtain ⟨c0, c1', c2, c3, c4, c5, c6, c7, c8, c9⟩ := mcells ((K1.out.grew G1.out).grew GA.out)
  have d0 := ((K2.out.grew G1.out).grew GA.out).cell 0
  have d1 := ((K2.out.grew G1.out).grew GA.out).cell 1
  have d2 := ((K2.out.grew G1.out).grew GA.out).cell 2
  simp only [List.getElem?_toArray, List.getElem?_cons_zero, List.getElem?_cons_succ] at d0 d1 d2
  have HFL := Lib.hid KF.out
  have HGA := Lib.hid (HG1.out.trans GA.out)
  have gsz : w.heap.size ≤ w1.heap.size := HG1.out.size
  go_wp2
  go_loopw [8, 60] (fun vo i wr => ∃ (k : Nat) (dv : Value), k ≤ m.l.length ∧ i = .int .i64 k ∧ RowKit.Hid ((listF num (m.l.take k)).length ≤ k * 8212) ∧ OwnB wr w.heap.size vo (listF num (m.l.take k)) ∧ Blk wr w1.heap.size 101 #[.int .i64 num, .int .u8 2, .int .u64 0, dv, .int .i64 0] ∧ Grew w wr) (fun _ i _ => m.l.length - (intOf i).toNat)
  case atStart => exact ⟨0, _, Nat.zero_le _, rfl, Lib.hid (Nat.zero_le _), ownB_nil _ _, HFL.out, HGA.out⟩
  case round =>
    obtain ⟨k, dv, hk, rfl, hpl, ho, hF, hG⟩ := hrel
    clear c0 c1' c2 c3 c4 c5 c6 c7 c8 c9 d0 d1 d2
    obtain ⟨a9, n9, c9, rfl, hn9⟩ := bs_shape (Sl.of_own ho)
    have HO := Lib.hid ho
    have HGR := Lib.hid hG
    have HFR := Lib.hid hF
    clear ho
    by_cases hlt : k < m.l.length
    · obtain ⟨b, o, rfl, hcl⟩ := HC.out (by omega)
      have x0 := (below_ext hG) _ _ (hcl k _ (tx_get m.l k hlt))
      have hs := List.take_succ_eq_append_getElem hlt
      have hms := HS.out _ (List.getElem_mem hlt)
      generalize m.l[k] = s at x0 hs hms
      have hpre : listF num (m.l.take (k + 1)) = listF num (m.l.take k) ++ (putF (num, 2, 0, sB s, 0)).1 := by
        rw [hs, listF_app]; show _ ++ (_ ++ []) = _; rw [List.append_nil]
      obtain ⟨cc, hcv, hbs, gcv⟩ := conv_str s wr (by omega)
      have hFc := hF.grew gcv
      have hlz := HFR.out.lt
      have HB := Lib.hid (bs_other (p := w1.heap.size) (j := 3) (u := .slice (some ⟨wr.heap.size, 0, none⟩) s.size cc) hbs (by omega))
      have HFS := Lib.hid (hFc.set 3 (.slice (some ⟨wr.heap.size, 0, none⟩) s.size cc))
      have HGS := Lib.hid (grew_set (b := w1.heap.size) (j := 3) (Grew.trans hG gcv) gsz (.slice (some ⟨wr.heap.size, 0, none⟩) s.size cc))
      have hne : Value.ownBlock (.slice a9 n9 c9) ≠ some w1.heap.size := fun e => blk_ne_row hFc (own_grew HO.out gcv) (by decide) e.symm
      have HOS := Lib.hid (own_set (own_grew HO.out gcv) ⟨w1.heap.size, 3, none⟩ (.slice (some ⟨wr.heap.size, 0, none⟩) s.size cc) hne)
      have HPRE := Lib.hid hpre
      have HPL := Lib.hid (putF_len (HOK.out s))
      have HMS := Lib.hid hms
      obtain ⟨f0, f1, f2, f3, f4, z0, z1, z2, z3, z4⟩ := cells5 hFc
      have zi : (k : Int) < (m.l.length : Int) := by omega
      clear hcl hs hms hpre hbs gcv hFc hF hG hlz hne
      go_wp2_with fail
      refine (KP.out s HMS.out _ _ HB.out).mono ?_
      generalize (putF (num, 2, 0, sB s, 0)).1 = X at HPRE HPL ⊢
      rintro e w2 ⟨v2, rfl, ho2, g2⟩
      obtain ⟨b9, m9, d9, rfl, hm9⟩ := bs_shape (Sl.of_own ho2)
      have HFS2 := Lib.hid (HFS.out.grew g2)
      have HG2 := Lib.hid (Grew.trans HGS.out g2)
      have HO2 := Lib.hid ho2
      have HOA := Lib.hid (own_grew HOS.out g2)
      clear f0 f1 f2 f3 f4 z0 z1 z2 z3 z4 x0 hcv ho2 g2
      go_wp2_with (at_builtin; refine wpList_push2 rfl _ _ rfl w.heap.size _ (listF num (m.l.take k)) rfl HOA.out _ rfl X (Sl.of_own HO2.out) (by have := hpl.out; have := HPL.out; omega) HG2.out.size ?_; intro v' w3 hown3 hB3 hgb _)
      refine ⟨⟨k + 1, _, by omega, by go_num, Lib.hid (by rw [HPRE.out, List.length_append]; have := hpl.out; have := HPL.out; omega), by rw [HPRE.out]; exact hown3, HFS2.out.kept hgb (blk_ne_row HFS2.out HOA.out (by decide)), Below.trans HG2.out hB3⟩, ?_⟩
      simp [intOf]; omega
    · obtain rfl : k = m.l.length := by omega
      have ho9 := HO.out
      rw [List.take_length] at ho9
      have HO9 := Lib.hid ho9
      clear ho9 hF hG
      go_wp2
      go_ret
      rw [HF.out]
      exact ⟨_, rfl, HO9.out, HGR.out⟩
set_option maxRecDepth 10000 in
/-- encode.Field -/
theorem efield_any (m : Msg) (a : Option Addr) (c : Nat) (num t sl : Int) (w : World) (hm : okE m) (hn : -9223372036854775808 ≤ num ∧ num ≤ 9223372036854775807) (hl : Tx w (.slice a m.l.length c) m.l) :
    Calls Tryz.prog 84 #[.agg (msgA m (.slice a m.l.length c)), .agg #[.int .i64 num, .int .i64 t, .int .i64 sl]] w (FldP m num t sl w) := by
  cases hw : (wireV t).2 with
  | false => exact efield_none m a c num t sl w (.inl hw)
  | true =>
    cases hd : defB m t sl with
    | true => exact efield_none m a c num t sl w (.inr hd)
    | false =>
      by_cases h10 : t = 10
      · subst h10; exact efield_list m a c num sl w hd hm hn hl
      by_cases hN : numB t = true ∧ 0 ≤ sl ∧ sl < 6
      · by_cases h3 : t = 3
        · subst h3; exact efield_sig m a c num sl w hd hn
        · exact efield_num m a c num t sl w hw hd hN.1 h3 hN.2.1 hN.2.2 hm hn
      by_cases hT : txtB t = true ∧ 0 ≤ sl ∧ sl < 2
      · exact efield_txt m a c num t sl w hd (by have := txt_facts hT.1; omega) (by omega) hm hn
      · rw [def_other hN hT h10] at hd; cases hd
end Go.Proofs.YtbjoohafgkodcaaGreat
