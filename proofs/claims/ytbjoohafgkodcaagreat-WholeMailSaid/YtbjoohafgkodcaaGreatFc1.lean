/- frame.Of, frame.Put of what is too long, rescriptlaw13.live: contracts. ; Frames of which bits are turned, or bytes cut off: what is read. No walk. -/
import Derived.Test.YtbjoohafgkodcaaGreatFrL
import Derived.Test.YtbjoohafgkodcaaGreatCrcT
import Derived.Test.YtbjoohafgkodcaaGreatFrS
import Derived.Test.YtbjoohafgkodcaaGreatEn5
namespace Go.Proofs.YtbjoohafgkodcaaGreat
open Go Go.RowKit Go.Shelf

theorem byte_bits {l m : List UInt8} {i : Nat} (h : ∀ t, t < 8 → bitAt l (8 * i + t) = bitAt m (8 * i + t)) : byteAt l i = byteAt m i := by
  apply Nat.eq_of_testBit_eq
  intro t
  by_cases ht : t < 8
  · have := h t ht
    unfold bitAt at this
    rw [show (8 * i + t) / 8 = i by omega, show (8 * i + t) % 8 = t by omega] at this
    exact this
  · have p : (256 : Nat) ≤ 2 ^ t := by
      have : (2 : Nat) ^ 8 ≤ 2 ^ t := Nat.pow_le_pow_right (by decide) (by omega)
      simpa using this
    rw [Nat.testBit_lt_two_pow (Nat.lt_of_lt_of_le (byteAt_lt l i) p), Nat.testBit_lt_two_pow (Nat.lt_of_lt_of_le (byteAt_lt m i) p)]
theorem bit_drop2 (l : List UInt8) (j : Nat) : bitAt (l.drop 2) j = bitAt l (j + 16) := by
  unfold bitAt
  rw [show (j + 16) / 8 = j / 8 + 2 by omega, show (j + 16) % 8 = j % 8 by omega, List.getD_eq_getElem?_getD, List.getD_eq_getElem?_getD, List.getElem?_drop, Nat.add_comm 2]
theorem fput_drop (f : Frm) : (fput f).drop 2 = cseal (fhead f ++ f.2) := rfl
theorem fread_zero {l : List UInt8} (h : ferr l ≠ 0) : fread l = ((0, []), 0, ferr l) := by unfold fread; rw [if_neg h]
/-- with up to 32 bits in a row turned in payload and sum a frame isn't read -/
theorem fburst (f : Frm) (ls : List UInt8) (n v : Nat) (hv : v < 4294967296) (h0 : v ≠ 0) (hf : f.2.length ≤ 8192) (hn : 40 ≤ n) (hat : n + 32 ≤ 8 * (f.2.length + 9)) (hl : ls.length = f.2.length + 9)
    (hb : ∀ j, j < 8 * (f.2.length + 9) → bitAt ls j = (bitAt (fput f) j != (decide (n ≤ j ∧ j < n + 32) && v.testBit (j - n)))) : fread ls = ((0, []), 0, 12) := by
  obtain ⟨r1, r2, r3⟩ := fput_read0 f hf
  obtain ⟨z1, z2, z3, z4, -⟩ := ferr_zero r1
  have hby : ∀ i, i < 5 → byteAt ls i = byteAt (fput f) i := fun i hi => byte_bits fun t ht => by
    rw [hb _ (by omega), show decide (n ≤ 8 * i + t ∧ 8 * i + t < n + 32) = false from decide_eq_false (by omega)]
    simp
  have hfl : flen ls = f.2.length := by unfold flen; rw [hby 3 (by omega), hby 4 (by omega)]; exact r3
  have he : ferr ls = 12 := by
    unfold ferr
    rw [if_neg (by rw [hby 0 (by omega), hby 1 (by omega), z3, z4]; omega), if_neg (by omega), hfl, if_neg (by omega), if_neg (by omega), if_neg]
    have e : (ls.drop 2).take (f.2.length + 7) = ls.drop 2 := List.take_of_length_le (by rw [List.length_drop]; omega)
    rw [e]
    have hh : (fhead f ++ f.2).length = f.2.length + 3 := by rw [List.length_append]; show 3 + _ = _; omega
    refine burst (fhead f ++ f.2) (ls.drop 2) (n - 16) v hv h0 (by rw [hh]; omega) (by rw [List.length_drop, hh]; omega) (fun j hj => ?_) _
    rw [hh] at hj
    rw [bit_drop2, hb (j + 16) (by omega), ← fput_drop, bit_drop2]
    have e1 : decide (n ≤ j + 16 ∧ j + 16 < n + 32) = decide (n - 16 ≤ j ∧ j < n - 16 + 32) := by
      by_cases c : n - 16 ≤ j ∧ j < n - 16 + 32
      · rw [decide_eq_true c, decide_eq_true (by omega)]
      · rw [decide_eq_false c, decide_eq_false (by omega)]
    rw [e1, show j + 16 - n = j - (n - 16) by omega]
  rw [fread_zero (by rw [he]; decide), he]
/-- what stands behind a frame changes nothing -/
theorem fread_put (f : Frm) (m : List UInt8) (hf : f.2.length ≤ 8192) : fread (fput f ++ m) = (f, f.2.length + 9, 0) := by
  obtain ⟨r1, r2, r3⟩ := fput_read f m hf
  unfold fread; rw [if_pos r1, r2, r3]
/-- less than a frame is too short -/
theorem fread_less (f : Frm) (k : Nat) (hf : f.2.length ≤ 8192) (hk : k < f.2.length + 9) : fread ((fput f).take k) = ((0, []), 0, 4) := by
  have he : ferr ((fput f).take k) = 4 := by
    by_cases h : ferr ((fput f).take k) = 4
    · exact h
    exfalso
    by_cases hn : (fput f).take k = []
    · rw [hn] at h; exact h ferr_nil
    have ha := ferr_append ((fput f).take k) ((fput f).drop k) h hn
    rw [List.take_append_drop] at ha
    obtain ⟨r1, -, r3⟩ := fput_read0 f hf
    have h0 : ferr ((fput f).take k) = 0 := by rw [← ha]; exact r1
    have hfl := (fof_append ((fput f).drop k) h0).2
    rw [List.take_append_drop, r3] at hfl
    have := (ferr_zero h0).1
    rw [List.length_take, fput_length] at this
    omega
  rw [fread_zero (by rw [he]; decide), he]
end Go.Proofs.YtbjoohafgkodcaaGreat
namespace Go.Proofs.YtbjoohafgkodcaaGreat
open Go Go.RowKit Go.Shelf
attribute [local go_sem] Oper.semAt_some

/-- the type of a message's frame -/
def ofK (e k : Nat) : Nat := if e = 0 then k else 0
set_option maxRecDepth 100000 in
set_option maxHeartbeats 8000000 in
theorem frameof_any (m : Msg) (a : Option Addr) (c : Nat) (ver : Int) (w : World) (hm : okE m) (hl : Tx w (.slice a m.l.length c) m.l) :
    Calls Tryz.prog 15 #[.agg (msgA m (.slice a m.l.length c)), .int .i64 ver] w fun e w' => ∃ v', e = .returned (.tuple #[.agg #[.int .u8 (ofK (chkM m (ofKind m.k (rowsIn ver))).1 m.k : Nat), v'], fltV (chkM m (ofKind m.k (rowsIn ver)))]) ∧ OwnB w' w.heap.size v' (msgB m (ofKind m.k (rowsIn ver))) ∧ Grew w w' := by
  have KB := Lib.hid (fun W g => ebytes_any m a c ver W hm (hl.grew (g : Grew w W)))
  obtain ⟨L, hL⟩ : ∃ L, L = ofKind m.k (rowsIn ver) := ⟨_, rfl⟩
  rw [← hL] at KB ⊢
  obtain ⟨W0, hW0⟩ : ∃ W0, W0 = ((w.alloc (.cells (msgA m (.slice a m.l.length c)) 29)).alloc (.cells #[.int .u8 0, .slice none 0 0] 42)).alloc (.cells #[.int .i64 0, .int .i64 0] 32) := ⟨_, rfl⟩
  have hg0 : Grew w W0 := by rw [hW0]; exact (grew2 _ _ _).trans (grew_alloc _ _)
  have k1 : Blk W0 w.heap.size 29 (msgA m (.slice a m.l.length c)) := by rw [hW0]; exact ((Blk.new _ _ _).alloc _).alloc _
  have k2 : Blk W0 (w.heap.size + 1) 42 #[.int .u8 0, .slice none 0 0] := by rw [hW0]; exact (Blk.new2 _ _ _ _).alloc _
  have k3 : Blk W0 (w.heap.size + 2) 32 #[.int .i64 0, .int .i64 0] := by rw [hW0]; exact Blk.at (by simp)
  have K1 := Lib.hid k1
  have K2 := Lib.hid k2
  have K3 := Lib.hid k3
  have HG := Lib.hid hg0
  simp only [msgA] at hW0 KB ⊢
  clear hl hm k1 k2 k3 hg0 hL
  go_enter Tryz.func15, Tryz.ntmps15
  go_wp2_with fail
  rw [← hW0]
  refine (KB.out _ HG.out).mono ?_
  obtain ⟨E, hE⟩ : ∃ E, E = chkM m L := ⟨_, rfl⟩
  obtain ⟨B, hB⟩ : ∃ B, B = msgB m L := ⟨_, rfl⟩
  have HE := Lib.hid hE
  have HB := Lib.hid hB
  rw [← hE, ← hB]
  clear hE hB hW0
  rintro e w1 ⟨v1, rfl, ho1, g1⟩
  obtain ⟨a1, n1, c1, rfl, hn1⟩ := bs_shape (Sl.of_own ho1)
  simp only [fltV]
  obtain ⟨w4, hw4⟩ : ∃ w4, w4 = w1.alloc (.cells #[.int .i64 (E.1 : Nat), .int .i64 (E.2 : Nat)] 32) := ⟨_, rfl⟩
  have g4 : Grew w1 w4 := by rw [hw4]; exact grew_alloc _ _
  have kf : Blk w4 w1.heap.size 32 #[.int .i64 (E.1 : Nat), .int .i64 (E.2 : Nat)] := by rw [hw4]; exact Blk.new _ _ _
  have H4 := Lib.hid ((HG.out.trans g1).trans g4)
  have K14 := Lib.hid ((K1.out.grew g1).grew g4)
  have K24 := Lib.hid ((K2.out.grew g1).grew g4)
  have K34 := Lib.hid ((K3.out.grew g1).grew g4)
  have HO4 := Lib.hid (own_mono (base' := w.heap.size) (own_grew ho1 g4) HG.out.size)
  have hlt := (K3.out.grew g1).lt
  have b1 : ¬ w1.heap.size = w.heap.size + 1 := by omega
  have b2 : ¬ w1.heap.size = w.heap.size + 2 := by omega
  have b3 : ¬ w.heap.size + 1 = w1.heap.size := by omega
  have b4 : ¬ w.heap.size + 2 = w1.heap.size := by omega
  clear hlt
  have KF := Lib.hid kf
  clear g1 g4 kf ho1
  go_upto_region 2 with (fail)
  rw [← hw4]
  clear hw4
  obtain ⟨f0, f1, -, -⟩ := cells_of KF.out
  obtain ⟨q0, q1, q2, q3⟩ := cells2 K24.out
  obtain ⟨p0, p1, p2, p3⟩ := cells_of K34.out
  by_cases he : E.1 ≠ 0
  · have hne : ((E.1 : Int) != 0) = true := by simp; omega
    have hmb : B = [] := by rw [HB.out]; unfold msgB; rw [if_pos (by rw [← HE.out]; exact he)]
    have HMB := Lib.hid hmb
    have HK := Lib.hid (show ofK E.1 m.k = 0 from if_neg he)
    clear he hmb
    go_wp2
    go_region
    all_goals (
      go_wp2
      have rA1 := (((K24.out.drew.set 0 (.int .u8 0)).set 1 (.slice none 0 0)).other ⟨w.heap.size + 2, 0, none⟩ (.int .i64 (E.1 : Nat)) (by simp)).other ⟨w.heap.size + 2, 1, none⟩ (.int .i64 (E.2 : Nat)) (by simp)
      have rA2 := ((((K34.out.drew.other ⟨w.heap.size + 1, 0, none⟩ (.int .u8 0) (by simp)).other ⟨w.heap.size + 1, 1, none⟩ (.slice none 0 0) (by simp)).set 0 (.int .i64 (E.1 : Nat))).set 1 (.int .i64 (E.2 : Nat)))
      have rB1 := (((K24.out.drew.other ⟨w.heap.size + 2, 0, none⟩ (.int .i64 (E.1 : Nat)) (by simp)).other ⟨w.heap.size + 2, 1, none⟩ (.int .i64 (E.2 : Nat)) (by simp)).set 0 (.int .u8 0)).set 1 (.slice none 0 0)
      have rB2 := ((((K34.out.drew.set 0 (.int .i64 (E.1 : Nat))).set 1 (.int .i64 (E.2 : Nat))).other ⟨w.heap.size + 1, 0, none⟩ (.int .u8 0) (by simp)).other ⟨w.heap.size + 1, 1, none⟩ (.slice none 0 0) (by simp))
      first
        | refine bodyPost_ret (results_cc rfl _ _ ⟨w.heap.size + 1, 0, none⟩ ⟨w.heap.size + 1 + 1, 0, none⟩ _ _ rfl rfl (loadVar_frame _ _ _ rfl rA1) (loadVar_fault _ _ _ rfl rA2)) rfl ?_
        | refine bodyPost_ret (results_cc rfl _ _ ⟨w.heap.size + 1, 0, none⟩ ⟨w.heap.size + 1 + 1, 0, none⟩ _ _ rfl rfl (loadVar_frame _ _ _ rfl rB1) (loadVar_fault _ _ _ rfl rB2)) rfl ?_
      rw [← HE.out, HK.out, ← HB.out, HMB.out]
      refine ⟨_, rfl, ownB_nil _ _, ?_⟩
      exact grew_set (grew_set (grew_set (grew_set (Grew.trans H4.out (Drew.grew ⟨1, rfl⟩)) (by omega) _) (by omega) _) (by omega) _) (by omega) _)
  · have hne : ((E.1 : Int) != 0) = false := by simp; omega
    obtain ⟨e1, e2⟩ := E
    obtain rfl : e1 = 0 := by simpa using he
    have hE2 := chk_z (m := m) (l := L) (by rw [← HE.out])
    rw [← HE.out] at hE2
    obtain rfl : e2 = 0 := by cases hE2; rfl
    obtain ⟨c0, -, -, -, -, -, -, -, -, -⟩ := mcells K14.out
    clear he hE2
    go_wp2
    have rA1 := (((K24.out.set 0 (.int .u8 m.k)).set 1 (.slice a1 n1 c1)).other ⟨w.heap.size + 2, 0, none⟩ (.int .i64 0) (by simp)).other ⟨w.heap.size + 2, 1, none⟩ (.int .i64 0) (by simp)
    have rA2 := ((((K34.out.other ⟨w.heap.size + 1, 0, none⟩ (.int .u8 m.k) (by simp)).other ⟨w.heap.size + 1, 1, none⟩ (.slice a1 n1 c1) (by simp)).set 0 (.int .i64 0)).set 1 (.int .i64 0))
    have ho9 := own_set (own_set (own_set (own_set HO4.out ⟨w.heap.size + 1, 0, none⟩ (.int .u8 m.k) (fun e => blk_ne_row K24.out HO4.out (by decide) e.symm)) ⟨w.heap.size + 1, 1, none⟩ (.slice a1 n1 c1) (fun e => blk_ne_row K24.out HO4.out (by decide) e.symm)) ⟨w.heap.size + 2, 0, none⟩ (.int .i64 0) (fun e => blk_ne_row K34.out HO4.out (by decide) e.symm)) ⟨w.heap.size + 2, 1, none⟩ (.int .i64 0) (fun e => blk_ne_row K34.out HO4.out (by decide) e.symm)
    refine bodyPost_ret (results_cc rfl _ _ ⟨w.heap.size + 1, 0, none⟩ ⟨w.heap.size + 1 + 1, 0, none⟩ _ _ rfl rfl (loadVar_frame _ _ _ rfl rA1) (loadVar_fault _ _ _ rfl rA2)) rfl ?_
    rw [← HE.out, ← HB.out]
    refine ⟨_, rfl, ho9, ?_⟩
    exact grew_set (grew_set (grew_set (grew_set H4.out (by omega) _) (by omega) _) (by omega) _) (by omega) _
set_option maxRecDepth 100000 in
set_option maxHeartbeats 4000000 in
theorem fputlong_any (f : Frm) (v : Value) (w : World) (hb : Bs w v f.2) (hlen : 8192 < f.2.length) :
    Calls Tryz.prog 32 #[frV f.1 v] w fun e w' => e = .returned (.tuple #[.slice none 0 0, .int .i64 2]) ∧ Grew w w' := by
  obtain ⟨a, c, rfl⟩ := bs_len hb
  have h1 : decide ((f.2.length : Int) > 8192) = true := by simp; omega
  clear hb hlen
  go_enter Tryz.func32, Tryz.ntmps32
  go_wp2
  go_ret2
  exact ⟨rfl, grew_alloc _ _⟩
def mE : Msg := ⟨0, fun _ => 0, fun _ => ⟨#[]⟩, []⟩
def mH : Msg := ⟨1, fun i => if i = 0 then 1 else 0, fun _ => ⟨#[]⟩, []⟩
theorem mE_ok : okE mE := ⟨fun i _ => Nat.zero_le _, (fun s (h : s ∈ ([] : List ByteArray)) => absurd h List.not_mem_nil), Nat.zero_le _, fun i _ => by show (0 : Nat) < _; omega⟩
theorem mH_ok : okE mH := ⟨fun i _ => Nat.zero_le _, (fun s (h : s ∈ ([] : List ByteArray)) => absurd h List.not_mem_nil), Nat.zero_le _, fun i _ => by show (if i = 0 then 1 else 0) < 18446744073709551616; split <;> omega⟩
theorem mE_args : msgA mE (.slice none 0 0) = #[.int .u8 0, .int .u64 0, .int .u64 0, .int .u64 0, .int .u64 0, .int .u64 0, .int .u64 0, .string ⟨#[]⟩, .string ⟨#[]⟩, .slice none 0 0] := rfl
theorem mH_args : msgA mH (.slice none 0 0) = #[.int .u8 1, .int .u64 1, .int .u64 0, .int .u64 0, .int .u64 0, .int .u64 0, .int .u64 0, .string ⟨#[]⟩, .string ⟨#[]⟩, .slice none 0 0] := rfl
theorem mE_chk : chkM mE (ofKind 0 (rowsIn 1)) = (7, 0) := by decide
theorem mH_chk : chkM mH (ofKind 1 (rowsIn 1)) = (0, 0) := by decide
theorem mE_msg : msgB mE (ofKind 0 (rowsIn 1)) = [] := by decide +kernel
theorem mH_msg : msgB mH (ofKind 1 (rowsIn 1)) = [8, 1] := by decide +kernel
theorem lv_r1 : fread (fput (8, []) ++ [1]) = ((8, []), 9, 0) := fread_put (8, []) [1] (by decide)
theorem lv_r2 : fread [197, 155] = ((0, []), 0, 3) := by rw [fread_zero (by decide)]; decide
theorem lv_r3 : fread [197] = ((0, []), 0, 4) := by rw [fread_zero (by decide)]; decide
theorem lv_r4 : fread [197, 154, 0, 0, 255] = ((0, []), 0, 2) := by rw [fread_zero (by decide)]; decide
set_option maxRecDepth 100000 in
set_option maxHeartbeats 16000000 in
theorem live13_any (w : World) : Calls Tryz.prog 13 #[] w fun e w' => e = .returned (.bool true) ∧ Grew w w' := by
  have KE := Lib.hid (fun W => frameof_any mE none 0 1 W mE_ok (Sl.nil W 1))
  have KH := Lib.hid (fun W => frameof_any mH none 0 1 W mH_ok (Sl.nil W 1))
  rw [show Value.slice none mE.l.length 0 = .slice none 0 0 from rfl, mE_args, show mE.k = 0 from rfl, mE_chk, mE_msg] at KE
  rw [show Value.slice none mH.l.length 0 = .slice none 0 0 from rfl, mH_args, show mH.k = 1 from rfl, mH_chk, mH_msg] at KH
  simp only [fltV, ofK] at KE KH
  go_enter Tryz.func13, Tryz.ntmps13
  go_wp2_with fail
  refine (fput_any (8, []) (.slice none 0 0) w (bs_nil w) (by decide)).mono ?_
  have hl9 : (fput (8, [])).length = 9 := by rw [fput_length]; rfl
  obtain ⟨F, hF⟩ : ∃ F, F = fput (8, []) := ⟨_, rfl⟩
  have hr1 := lv_r1
  rw [← hF] at hl9 hr1 ⊢
  rintro e w1 ⟨v1, rfl, ho1, g1⟩
  obtain ⟨a1, n1, c1, rfl, hn1⟩ := bs_shape (Sl.of_own ho1)
  have hn9 : n1 = 9 := hn1.out.trans hl9
  subst hn9
  have HL := Lib.hid hl9
  have gA := grew_alloc w1 (.cells #[.int .u8 1] 5)
  have HO := Lib.hid (own_grew ho1 gA)
  have HB1 := Lib.hid (bs_lit w1 [1] #[.int .u8 1] 1 rfl rfl (by omega))
  have HG := Lib.hid (g1.trans gA)
  clear ho1 g1 gA hF hl9
  go_wp2_with (at_builtin; refine wpList_push2 rfl _ _ rfl w.heap.size (.slice a1 9 c1) F rfl HO.out _ rfl [1] HB1.out (by rw [HL.out]; decide) (by have := HG.out.size; exact this) ?_; intro v2 w2 hown2 hB2 _ _; obtain ⟨a2, n2, c2, rfl, hn2⟩ := bs_shape (Sl.of_own hown2))
  have G2 := Lib.hid (Below.trans HG.out hB2)
  have kr := fread_any _ _ _ (Sl.of_own hown2) (by rw [List.length_append, HL.out]; decide)
  rw [hr1] at kr
  have KR := Lib.hid kr
  refine KR.out.mono ?_
  rintro e w3 ⟨v3, rfl, hp3, g3⟩
  obtain ⟨a3, n3, c3, rfl, hn3⟩ := bs_shape hp3.1
  obtain ⟨wa, hwa⟩ : ∃ wa, wa = w3.alloc (.cells #[.int .u8 8, .slice a3 n3 c3] 42) := ⟨_, rfl⟩
  have ga : Grew w3 wa := by rw [hwa]; exact grew_alloc _ _
  have ka : Blk wa w3.heap.size 42 #[.int .u8 8, .slice a3 n3 c3] := by rw [hwa]; exact Blk.new _ _ _
  have KA := Lib.hid ka
  have G3 := Lib.hid ((Grew.trans G2.out g3).trans ga)
  have HL1 := Lib.hid hn1
  clear hp3 g3 ga ka kr hown2 hB2 KR HO HB1 HG hn1
  go_upto_region 3 with (fail)
  have hty : ((8 : UInt8).toNat : Int) = 8 := rfl
  try simp only [hty]
  rw [← hwa]
  clear hwa
  go_wp2_with fail
  refine (fread_any [197, 155] _ _ (bs_lit wa _ _ 2 rfl rfl (by omega)) (by decide)).mono ?_
  rw [lv_r2]
  rintro e w4 ⟨v4, rfl, hp4, g4⟩
  obtain ⟨a4, n4, c4, rfl, hn4⟩ := bs_shape hp4.1
  have g5 := ((grew_alloc wa (.cells #[.int .u8 197, .int .u8 155] 5)).trans g4).trans (grew_alloc w4 (.cells #[.int .u8 0, .slice a4 n4 c4] 42))
  have KA4 := Lib.hid (KA.out.grew g5)
  have G4 := Lib.hid (G3.out.trans g5)
  clear hp4 g4 KA g5
  go_upto_region 4 with (fail)
  have hty0 : ((0 : UInt8).toNat : Int) = 0 := rfl
  try simp only [hty0]
  obtain ⟨wb, hwb⟩ : ∃ wb, wb = w4.alloc (.cells #[.int .u8 0, .slice a4 n4 c4] 42) := ⟨_, rfl⟩
  rw [← hwb] at KA4 G4 ⊢
  clear hwb
  go_wp2_with fail
  refine (fread_any [197] _ _ (bs_lit wb _ _ 1 rfl rfl (by omega)) (by decide)).mono ?_
  rw [lv_r3]
  rintro e w5 ⟨v5, rfl, hp5, g5⟩
  obtain ⟨a5, n5, c5, rfl, hn5⟩ := bs_shape hp5.1
  have g6 := ((grew_alloc wb (.cells #[.int .u8 197] 5)).trans g5).trans (grew_alloc w5 (.cells #[.int .u8 0, .slice a5 n5 c5] 42))
  have KA5 := Lib.hid (KA4.out.grew g6)
  have G5 := Lib.hid (G4.out.trans g6)
  clear hp5 g5 KA4 g6
  go_upto_region 5 with (fail)
  try simp only [hty0]
  obtain ⟨wc, hwc⟩ : ∃ wc, wc = w5.alloc (.cells #[.int .u8 0, .slice a5 n5 c5] 42) := ⟨_, rfl⟩
  rw [← hwc] at KA5 G5 ⊢
  clear hwc
  go_wp2_with fail
  refine (fread_any [197, 154, 0, 0, 255] _ _ (bs_lit wc _ _ 5 rfl rfl (by omega)) (by decide)).mono ?_
  rw [lv_r4]
  rintro e w6 ⟨v6, rfl, hp6, g6⟩
  obtain ⟨a6, n6, c6, rfl, hn6⟩ := bs_shape hp6.1
  have g7 := ((grew_alloc wc (.cells #[.int .u8 197, .int .u8 154, .int .u8 0, .int .u8 0, .int .u8 255] 5)).trans g6).trans (grew_alloc w6 (.cells #[.int .u8 0, .slice a6 n6 c6] 42))
  have KA6 := Lib.hid (KA5.out.grew g7)
  have G6 := Lib.hid (G5.out.trans g7)
  clear hp6 g6 KA5 g7
  go_upto_region 6 with (fail)
  try simp only [hty0]
  obtain ⟨wd, hwd⟩ : ∃ wd, wd = w6.alloc (.cells #[.int .u8 0, .slice a6 n6 c6] 42) := ⟨_, rfl⟩
  rw [← hwd] at KA6 G6 ⊢
  clear hwd
  go_wp2_with fail
  refine (KE.out _).mono ?_
  rintro e w7 ⟨v7, rfl, ho7, g7⟩
  obtain ⟨a7, n7, c7, rfl, hn7⟩ := bs_shape (Sl.of_own ho7)
  simp only [Int.natCast_zero, ite_self]
  obtain ⟨we, hwe⟩ : ∃ we, we = (w7.alloc (.cells #[.int .u8 0, .slice a7 n7 c7] 42)).alloc (.cells #[.int .i64 7, .int .i64 0] 32) := ⟨_, rfl⟩
  have g8 : Grew w7 we := by rw [hwe]; exact grew2 _ _ _
  have k8 : Blk we (w7.heap.size + 1) 32 #[.int .i64 7, .int .i64 0] := by rw [hwe]; exact Blk.new2 _ _ _ _
  have K8 := Lib.hid k8
  have KA7 := Lib.hid ((KA6.out.grew g7).grew g8)
  have G7 := Lib.hid ((G6.out.trans g7).trans g8)
  clear ho7 g7 g8 k8 KA6
  go_upto_region 7 with (fail)
  rw [← hwe]
  clear hwe
  go_wp2_with fail
  refine (KH.out _).mono ?_
  rintro e w8 ⟨v8, rfl, ho8, g9⟩
  obtain ⟨a8, c8, rfl⟩ := bs_len (Sl.of_own ho8)
  simp only [Int.natCast_zero, Int.natCast_one, if_pos]
  obtain ⟨wf, hwf⟩ : ∃ wf, wf = (w8.alloc (.cells #[.int .u8 1, .slice a8 2 c8] 42)).alloc (.cells #[.int .i64 0, .int .i64 0] 32) := ⟨_, rfl⟩
  have g10 : Grew w8 wf := by rw [hwf]; exact grew2 _ _ _
  have k9 : Blk wf (w8.heap.size + 1) 32 #[.int .i64 0, .int .i64 0] := by rw [hwf]; exact Blk.new2 _ _ _ _
  have k10 : Blk wf w8.heap.size 42 #[.int .u8 1, .slice a8 2 c8] := by rw [hwf]; exact (Blk.new _ _ _).alloc _
  have KB1 := (K8.out.grew g9).grew g10
  have KA8 := (KA7.out.grew g9).grew g10
  have HO8 := Lib.hid (own_grew ho8 g10)
  have G8 := Lib.hid ((G7.out.trans g9).trans g10)
  have HK9 := Lib.hid k9
  clear ho8 g9 g10 K8 KA7
  go_upto_region 8 with (fail)
  rw [← hwf]
  clear hwf
  obtain ⟨x0, x1, -, -⟩ := cells2 KA8
  obtain ⟨y0, y1, -, -⟩ := cells_of KB1
  obtain ⟨z0, z1, -, -⟩ := cells2 k10
  go_wp2_with fail
  refine (frsame_any (1, [8, 1]) (1, [8, 1]) _ _ _ ((Sl.of_own HO8.out).grew (grew_alloc _ _)) (bs_lit wf _ _ 2 rfl rfl (by omega))).mono ?_
  rw [beq_self_eq_true]
  rintro e w9 ⟨rfl, g11⟩
  have g12 := (grew_alloc wf (.cells #[.int .u8 8, .int .u8 1] 5)).trans g11
  have K13 := HK9.out.grew g12
  have G9 := Lib.hid (G8.out.trans g12)
  clear x0 x1 y0 y1 z0 z1 k9 k10 KB1 KA8 g11 g12
  obtain ⟨y0, y1, -, -⟩ := cells_of K13
  go_wp2_with fail
  refine (fsize_any 0 _ (by decide) (by decide)).mono ?_
  rw [show fsize 0 = 9 from rfl]
  rintro e w10 ⟨rfl, rfl⟩
  go_wp2_with fail
  refine (fsize_any 8193 _ (by decide) (by decide)).mono ?_
  rw [show fsize 8193 = 0 from rfl]
  rintro e w11 ⟨rfl, rfl⟩
  go_wp2
  go_ret
  exact ⟨rfl, G9.out⟩
end Go.Proofs.YtbjoohafgkodcaaGreat
