/- encode.Bytes, encode.Size: contracts. ; encode.each: the iterator over a message's fields. -/
import Derived.Test.YtbjoohafgkodcaaGreatEn3
import Derived.Test.YtbjoohafgkodcaaGreatVa1
import Derived.Test.YtbjoohafgkodcaaGreatSchS
import Derived.Test.YtbjoohafgkodcaaGreatItw
import Derived.Test.YtbjoohafgkodcaaGreatFld
import Derived.Test.YtbjoohafgkodcaaGreatVa9
namespace Go.Proofs.YtbjoohafgkodcaaGreat
open Go Go.RowKit Go.Shelf
attribute [local go_sem] Oper.semAt_some

theorem rows_nm : ∀ r ∈ rowsAll, r.2.1 ≤ 1000 := by decide
theorem nm_ok {k : Nat} {ver : Int} {r : Row} (h : r ∈ ofKind k (rowsIn ver)) : (r.2.1 : Int) ≤ 9223372036854775807 := by have := rows_nm r (ofKind_sub h).1; omega
/-- the bytes of a row's field -/
def fR (m : Msg) (r : Row) : List UInt8 := fieldF m (r.2.1 : Int) (r.2.2.1 : Int) (r.2.2.2.1 : Int)
abbrev MkE := List UInt8 × Value
def encE (x : MkE) : Array Value := #[x.2]
def OkE (m : Msg) (L : List Row) (pre : List MkE) (x : MkE) (W : World) : Prop := pre.length < L.length ∧ (pre ++ [x]).map (·.1) = (L.take (pre.length + 1)).map (fR m) ∧ Bs W x.2 x.1
/-- types that a round leaves alone -/
def EnT (t : TypeId) : Prop := t = 29 ∨ t = 82
theorem eeach_any (m : Msg) (lv : Value) (ver : Int) (w : World) : Calls Tryz.prog 59 #[.agg (msgA m lv), .int .i64 ver] w fun e w' =>
    e = .returned (.func (.func 83) #[] #[.pointer (some ⟨w.heap.size, 0, none⟩), .pointer (some ⟨w.heap.size + 1, 0, none⟩)]) ∧ w' = (w.alloc (.cells (msgA m lv) 29)).alloc (.cells #[.int .i64 ver] 3) := by
  simp only [msgA]
  go_enter Tryz.func59, Tryz.ntmps59
  go_wp2
  go_ret
  exact ⟨by simp, rfl⟩
set_option maxRecDepth 100000 in
set_option maxHeartbeats 4000000 in
theorem eeach_iter (m : Msg) (a : Option Addr) (c : Nat) (ver : Int) (Bm Bi n₀ : Nat) (w : World) (hn : n₀ ≤ w.heap.size) (hcm : Blk w Bm 29 (msgA m (.slice a m.l.length c))) (hci : Blk w Bi 3 #[.int .i64 ver])
    (htx : ∀ w', Below n₀ w w' → Tx w' (.slice a m.l.length c) m.l) (hm : okE m) :
    IterW Tryz.prog 83 #[.pointer (some ⟨Bm, 0, none⟩), .pointer (some ⟨Bi, 0, none⟩)] encE Grew (fun A B => Below n₀ A B ∧ KeepT EnT A B) (OkE m (ofKind m.k (rowsIn ver))) (fun xs => xs.map (·.1) = (ofKind m.k (rowsIn ver)).map (fR m)) (fun _ => True) w := by
  intro lp J Jx W hW hJ hJx hY h0
  have KO := Lib.hid (fun W => of_any m.k ver W)
  have hle := ofKind_le m.k ver
  have hnm := fun r (h : r ∈ ofKind m.k (rowsIn ver)) => nm_ok h
  generalize ofKind m.k (rowsIn ver) = L at KO hle hY hnm ⊢
  have HNM := Lib.hid hnm
  clear hnm
  have hcW := hcm.grew hW
  have hiW := hci.grew hW
  obtain ⟨c0, -, -, -, -, -, -, -, -, -⟩ := mcells hcW
  have i0 := hiW.cell 0
  simp only [List.getElem?_toArray, List.getElem?_cons_zero] at i0
  have HM := Lib.hid hm
  have HTX := Lib.hid htx
  clear hm htx hcm hci hiW
  refine callsIn_of_wp Tryz.func83 rfl trivial ?_ rfl
  simp only [Tryz.ntmps83, List.size_toArray, List.length_cons, List.length_nil, Nat.reduceAdd, Nat.reduceSub, Array.replicate_succ, Array.replicate_zero, List.push_toArray, List.append_toArray, List.nil_append, List.cons_append]
  gi_wp2_with fail
  refine (callsIn_wide.2 (KO.out _)).mono ?_
  rintro e w1 ⟨v1, rfl, r1, g1⟩
  obtain ⟨a1, c1, rfl, -, -, -, -⟩ := (Sl.of_own r1).open
  have hJ1 := hJ _ _ _ h0 g1
  have hcm1 := hcW.grew g1
  have hB1 : Below n₀ w w1 := Below.trans (hW.mono hn) (g1.mono (by have := hW.size; omega))
  have hz1 : W.heap.size ≤ w1.heap.size := g1.size
  have hnW : n₀ ≤ W.heap.size := by have := hW.size; omega
  clear c0 i0 h0 g1 hcW
  gi_wp2
  gi_loopw [17] (fun i wr => ∃ (k : Nat) (pre : List MkE), i = .int .i64 k ∧ k = pre.length ∧ k ≤ L.length ∧ RowKit.Hid (pre.map (·.1) = (L.take k).map (fR m)) ∧ J pre wr ∧ Below n₀ w wr ∧ Blk wr Bm 29 (msgA m (.slice a m.l.length c)) ∧ OwnS wr W.heap.size (.slice a1 L.length c1) L) (fun i _ => L.length - (intOf i).toNat)
  case atStart => exact ⟨0, [], rfl, rfl, Nat.zero_le _, Lib.hid rfl, hJ1, hB1, hcm1, r1⟩
  case round =>
    obtain ⟨k, pre, rfl, hkn, hkl, hpre, hJr, hB, hcb, hor⟩ := hrel
    have HKN := Lib.hid hkn
    clear hJ1 hB1 hcm1 r1 hkn
    by_cases hlt : k < L.length
    · obtain ⟨a', c', e, -, -, -, hcc⟩ := (Sl.of_own hor).open
      cases e
      obtain ⟨b, o, rfl, hcl⟩ := hcc (by omega)
      have hf := fun j hj => flat_get (f := specV) (k := 3) (fun _ => rfl) L k hlt j hj
      have x0 := hcl _ _ (hf 0 (by omega))
      have x1 := hcl _ _ (hf 1 (by omega))
      have x2 := hcl _ _ (hf 2 (by omega))
      simp only [Nat.add_zero, ← Nat.add_assoc] at x0 x1 x2
      have hnx : (L.take (k + 1)).map (fR m) = (L.take k).map (fR m) ++ [fR m L[k]] := by rw [List.take_succ_eq_append_getElem hlt, List.map_append]; rfl
      have hnm : ((L[k]).2.1 : Int) ≤ 9223372036854775807 := HNM.out _ (List.getElem_mem hlt)
      generalize L[k] = r at x0 x1 x2 hnx hnm
      obtain ⟨kd, nm, ty, sl, si⟩ := r
      obtain ⟨wa, hwa⟩ : ∃ wa, wa = wr.alloc (.cells #[.int .i64 nm, .int .i64 ty, .int .i64 sl] 82) := ⟨_, rfl⟩
      have ga : Grew wr wa := by rw [hwa]; exact grew_alloc _ _
      have hxb : Blk wa wr.heap.size 82 #[.int .i64 nm, .int .i64 ty, .int .i64 sl] := by rw [hwa]; exact Blk.new _ _ _
      have hcb2 := hcb.grew ga
      have hBa : Below n₀ w wa := Below.trans hB (ga.mono (by have := hB.size; omega))
      have KF := efield_any m a c nm ty sl wa HM.out ⟨by omega, hnm⟩ (HTX.out _ hBa)
      have hJ2 := hJ _ _ _ hJr ga
      have hor2 := own_grew hor ga
      have HNX := Lib.hid hnx
      have HX := Lib.hid hxb
      have HCB := Lib.hid hcb2
      have zi : (k : Int) < (L.length : Int) := by omega
      simp only [msgA] at KF
      clear hcl hf hcc hnx hxb ga hcb hB hJr hor hnm hcb2
      obtain ⟨c0, c1', c2, c3, c4, c5, c6, c7, c8, c9⟩ := mcells HCB.out
      have d0 := HX.out.cell 0
      have d1 := HX.out.cell 1
      have d2 := HX.out.cell 2
      simp only [List.getElem?_toArray, List.getElem?_cons_zero, List.getElem?_cons_succ] at d0 d1 d2
      rw [hwa] at c0 c1' c2 c3 c4 c5 c6 c7 c8 c9
      gi_wp2_with fail
      rw [← hwa]
      refine (callsIn_wide.2 KF).mono ?_
      clear x0 x1 x2 hwa c0 c1' c2 c3 c4 c5 c6 c7 c8 c9 d0 d1 d2 KF
      rintro e w3 ⟨v3, rfl, ho3, g3⟩
      obtain ⟨a3, n3, q3, rfl, hn3⟩ := bs_shape (Sl.of_own ho3)
      have hJ3 := hJ _ _ _ hJ2 g3
      have hok : OkE m L pre (fR m (kd, nm, ty, sl, si), .slice a3 n3 q3) w3 := ⟨by have := HKN.out; omega, by rw [← HKN.out, HNX.out, ← hpre.out, List.map_append]; rfl, Sl.of_own ho3⟩
      obtain ⟨fn, tmps, assign, body, hy, hR⟩ := hY _ _ _ hJ3 hok
      simp only [encE] at hy
      have hcb3 := HCB.out.grew g3
      have hor3 := own_grew hor2 g3
      have hB3 : Below n₀ w w3 := Below.trans hBa (g3.mono (by have := hBa.size; omega))
      clear hok hJ hJx hY hJ2 ho3 hor2 hBa hJ3
      gi_wp2_with fail
      refine hR.mono ?_
      rintro e w5 (⟨rfl, hJ5, hk5, hk6⟩ | ⟨rfl, hJx5⟩)
      · clear hy hR
        gi_wp2
        refine ⟨⟨k + 1, _, by go_num, by rw [List.length_append, ← HKN.out]; rfl, by omega, Lib.hid (by rw [HNX.out, ← hpre.out, List.map_append]; rfl), hJ5, Below.trans hB3 hk5, hk6.blk hcb3 (.inl rfl), hk6.own hor3 (.inr rfl)⟩, ?_⟩
        simp [intOf]; omega
      · clear hy hR
        gi_wp2
        refine bodyPost_ret (results_none rfl _ _ _) rfl ?_
        exact ⟨⟨_, rfl⟩, .inr ⟨_, trivial, hJx5⟩⟩
    · obtain rfl : k = L.length := by omega
      have hp := hpre.out
      rw [List.take_length] at hp
      have HP := Lib.hid hp
      clear hp hcb hor
      gi_wp2
      go_end0
      exact ⟨⟨_, rfl⟩, .inl ⟨pre, HP.out, hJr⟩⟩
end Go.Proofs.YtbjoohafgkodcaaGreat
namespace Go.Proofs.YtbjoohafgkodcaaGreat
open Go Go.RowKit Go.Shelf
attribute [local go_sem] Oper.semAt_some

theorem okE_okM {m : Msg} (h : okE m) : okM m := ⟨fun i hi => by have := h.1 i hi; omega, fun s hs => by have := h.2.1 s hs; omega⟩
theorem listF_len {num : Int} (hn : -9223372036854775808 ≤ num ∧ num ≤ 9223372036854775807) (l : List ByteArray) : (listF num l).length ≤ l.length * 8212 := by
  induction l with
  | nil => exact Nat.zero_le _
  | cons s l ih =>
    have h1 : (putF (num, 2, 0, sB s, 0)).1.length ≤ 8212 := putF_len ⟨hn.1, hn.2, (by show (2:Nat) < 256; omega), (by show (0:Nat) < _; omega)⟩
    show (_ ++ listF num l).length ≤ _
    rw [List.length_append, List.length_cons]; omega
theorem fieldF_len {m : Msg} {num t sl : Int} (hm : okE m) (hn : -9223372036854775808 ≤ num ∧ num ≤ 9223372036854775807) : (fieldF m num t sl).length ≤ 8212000 := by
  unfold fieldF
  by_cases h0 : (wireV t).2 = false ∨ defB m t sl = true
  · rw [if_pos h0]; exact Nat.zero_le _
  have hw : (wireV t).2 = true := by cases h : (wireV t).2 with | true => rfl | false => exact absurd (.inl h) h0
  have hd : defB m t sl = false := by cases h : defB m t sl with | false => rfl | true => exact absurd (.inr h) h0
  rw [if_neg h0]
  have hiv : -9223372036854775808 ≤ intV m sl ∧ intV m sl ≤ 9223372036854775807 := by unfold intV; split <;> (try unfold wrap64) <;> omega
  split
  · exact Nat.le_trans (putF_len ⟨hn.1, hn.2, (by show (0:Nat) < 256; omega), zigN_lt hiv.1 hiv.2⟩) (by omega)
  split
  · rename_i h
    have hk : (wireV t).1.toNat < 256 := by
      rcases wireV_ok hw with ⟨-, h1, -⟩ | ⟨-, h1⟩ | ⟨-, h1⟩
      · exact h1
      · rw [h1]; decide
      · rw [h1]; decide
    have hs : 0 ≤ sl ∧ sl < 6 := by
      by_cases hN : numB t = true ∧ 0 ≤ sl ∧ sl < 6
      · exact hN.2
      · exfalso
        have h7 := num_facts h
        rw [def_other hN (by unfold txtB; simp; omega) (by omega)] at hd; cases hd
    exact Nat.le_trans (putF_len ⟨hn.1, hn.2, hk, hm.2.2.2 _ (by omega)⟩) (by omega)
  split
  · exact Nat.le_trans (putF_len ⟨hn.1, hn.2, (by show (2:Nat) < 256; omega), (by show (0:Nat) < _; omega)⟩) (by omega)
  · have := listF_len (num := num) hn m.l
    have := hm.2.2.1
    omega
theorem chk_z {m : Msg} {l : List Row} (h : (chkM m l).1 = 0) : chkM m l = (0, 0) := by
  unfold chkM at h ⊢
  by_cases h0 : l = []
  · rw [if_pos h0] at h; cases h
  rw [if_neg h0] at h ⊢
  cases hf : l.find? (fun r => errR m r != 0) with
  | some r =>
    rw [hf] at h
    have := List.find?_some hf
    simp at this h
    exact absurd h this
  | none =>
    rw [hf] at h
    simp only at h ⊢
    by_cases hs : sameB (cleanM m l) m = true
    · rw [if_pos hs]
    · rw [if_neg hs] at h; cases h
/-- the bytes of a message, or what is wrong with it -/
def msgB (m : Msg) (L : List Row) : List UInt8 := if (chkM m L).1 ≠ 0 then [] else (L.map (fR m)).flatten
/-- what the rounds leave -/
def EncI (L : List Row) (w : World) (b7 : Nat) (pre : List MkE) (W : World) : Prop := ∃ v, Blk W b7 22 #[v] ∧ OwnB W w.heap.size v (pre.map (·.1)).flatten ∧ Blk W (w.heap.size + 1) 32 #[.int .i64 0, .int .i64 0] ∧ Grew w W ∧ (pre.map (·.1)).flatten.length ≤ pre.length * 8212000 ∧ pre.length ≤ L.length
theorem EncI.grew {L : List Row} {w : World} {b7 : Nat} {pre : List MkE} {A B : World} (h : EncI L w b7 pre A) (e : Grew A B) : EncI L w b7 pre B := by
  obtain ⟨v, h1, h2, h3, h4, h5⟩ := h
  exact ⟨v, h1.grew e, own_grew h2 e, h3.grew e, h4.trans e, h5⟩
theorem EncI.ck {L : List Row} {w : World} {b7 n : Nat} {pre : List MkE} {A B : World} (h : EncI L w b7 pre A) (e : CK n A B) (hn : w.heap.size ≤ n) : EncI L w b7 pre B := by
  obtain ⟨v, h1, h2, h3, h4, h5⟩ := h
  exact ⟨v, e.blk h1, e.own h2, e.blk h3, e.below h4 hn, h5⟩
set_option maxRecDepth 100000 in
set_option maxHeartbeats 8000000 in
theorem ebytes_any (m : Msg) (a : Option Addr) (c : Nat) (ver : Int) (w : World) (hm : okE m) (hl : Tx w (.slice a m.l.length c) m.l) :
    Calls Tryz.prog 35 #[.agg (msgA m (.slice a m.l.length c)), .int .i64 ver] w fun e w' => ∃ v', e = .returned (.tuple #[v', fltV (chkM m (ofKind m.k (rowsIn ver)))]) ∧ OwnB w' w.heap.size v' (msgB m (ofKind m.k (rowsIn ver))) ∧ Grew w w' := by
  have KC := Lib.hid (fun W g => vcheck_any m (.slice a m.l.length c) ver W (okE_okM hm) (hl.grew (g : Grew w W)) (by have := hm.2.2.1; omega))
  have KE := Lib.hid (fun W => eeach_any m (.slice a m.l.length c) ver W)
  have HL := Lib.hid hl
  have HM := Lib.hid hm
  have hle := ofKind_le m.k ver
  have hnm := fun r (h : r ∈ ofKind m.k (rowsIn ver)) => nm_ok h
  have KI := Lib.hid (fun Bm Bi n₀ W h1 h2 h3 h4 => eeach_iter m a c ver Bm Bi n₀ W h1 h2 h3 h4 hm)
  generalize ofKind m.k (rowsIn ver) = L at KC KI hle hnm ⊢
  have HNM := Lib.hid hnm
  have HLE := Lib.hid hle
  obtain ⟨W0, hW0⟩ : ∃ W0, W0 = (w.alloc (.cells (msgA m (.slice a m.l.length c)) 29)).alloc (.cells #[.int .i64 0, .int .i64 0] 32) := ⟨_, rfl⟩
  have hg0 : Grew w W0 := by rw [hW0]; exact grew2 _ _ _
  have k1 : Blk W0 w.heap.size 29 (msgA m (.slice a m.l.length c)) := by rw [hW0]; exact (Blk.new _ _ _).alloc _
  have k2 : Blk W0 (w.heap.size + 1) 32 #[.int .i64 0, .int .i64 0] := by rw [hW0]; exact Blk.new2 _ _ _ _
  have K1 := Lib.hid k1
  have K2 := Lib.hid k2
  have HG := Lib.hid hg0
  simp only [msgA] at hW0 KC KE ⊢
  clear hl hm hle hnm k1 k2 hg0
  refine (callsIn_wide (n := 0)).1 (callsIn_of_wp_marks Tryz.func35 rfl trivial ?_ rfl)
  simp only [Tryz.ntmps35, List.size_toArray, List.length_cons, List.length_nil, Nat.reduceAdd, Nat.reduceSub, Array.replicate_succ, Array.replicate_zero, List.push_toArray, List.append_toArray, List.nil_append, List.cons_append]
  gi_wp2_with fail
  rw [← hW0]
  refine (callsIn_wide.2 (KC.out _ HG.out)).mono ?_
  obtain ⟨E, hE⟩ : ∃ E, E = chkM m L := ⟨_, rfl⟩
  have HE := Lib.hid hE
  rw [← hE]
  clear hE hW0
  rintro e w1 ⟨rfl, g1⟩
  simp only [fltV]
  have q2 := K2.out.grew g1
  have hg1 := HG.out.trans g1
  have hz0 : w.heap.size + 1 < w1.heap.size := q2.lt
  obtain ⟨wa, hwa⟩ : ∃ wa, wa = w1.alloc (.cells #[.int .i64 (E.1 : Nat), .int .i64 (E.2 : Nat)] 32) := ⟨_, rfl⟩
  have ga : Grew w1 wa := by rw [hwa]; exact grew_alloc _ _
  have kE : Blk wa w1.heap.size 32 #[.int .i64 (E.1 : Nat), .int .i64 (E.2 : Nat)] := by rw [hwa]; exact Blk.new _ _ _
  have q2a := q2.grew ga
  have Q2 := Lib.hid q2a
  have HGA := Lib.hid (hg1.trans ga)
  have KEB := Lib.hid kE
  have HZ0 := Lib.hid hz0
  have K1A := Lib.hid ((K1.out.grew g1).grew ga)
  have HWA := Lib.hid hwa
  obtain ⟨u0, u1, u2, u3⟩ := cells_of kE
  rw [hwa] at u0 u1 u2 u3
  by_cases he : E.1 ≠ 0
  · have hne : ((E.1 : Int) != 0) = true := by simp; omega
    have hmb : msgB m L = [] := by unfold msgB; rw [if_pos (by rw [← HE.out]; exact he)]
    have HMB := Lib.hid hmb
    have f0 := Q2.out.frozen 0
    have f1 := Q2.out.frozen 1
    have y0 := Q2.out.cell 0
    have y1 := Q2.out.cell 1
    simp only [List.getElem?_toArray, List.getElem?_cons_zero, List.getElem?_cons_succ] at y0 y1
    rw [hwa] at y0 y1 f0 f1
    clear he ga kE q2 q2a hg1 hz0 g1 KI hmb
    gi_wp2_with fail
    refine wpIn_region_tail open_wide ?_ 2 (by kernel_rfl) (by kernel_rfl) (by kernel_rfl) ?_
    · rintro ⟨_, _, h⟩
      obtain ⟨_, h, _⟩ := h
      cases h
    · simp only [List.take_succ_cons, List.take_zero, List.drop_succ_cons, List.drop_zero]
      repeat still_step
      refine wpStill_nil ?_
      go_wp2
      gi_wp2
      rw [← HWA.out]
      try rw [Exit.noGoto_ret]
      have r1 := ((Q2.out.set 0 (.int .i64 (E.1 : Nat))).set 1 (.int .i64 (E.2 : Nat))).drew
      refine ⟨_, results_tc rfl _ _ ⟨w.heap.size + 1, 0, none⟩ _ _ rfl rfl (loadVar_fault _ _ _ rfl r1), ?_⟩
      rw [HMB.out, ← HE.out]
      exact ⟨_, rfl, ownB_nil _ _, (grew_set (grew_set HGA.out (by omega) _) (by omega) _).drew⟩
  · obtain ⟨e1, e2⟩ := E
    obtain rfl : e1 = 0 := by simpa using he
    have hE2 := chk_z (m := m) (l := L) (by rw [← HE.out])
    rw [← HE.out] at hE2
    obtain rfl : e2 = 0 := by cases hE2; rfl
    have hmb : msgB m L = (L.map (fR m)).flatten := by unfold msgB; rw [if_neg (by rw [← HE.out]; simp)]
    have HMB := Lib.hid hmb
    simp only [Int.natCast_zero] at hwa u0 u1 u2 u3 KEB HWA kE
    obtain ⟨wb, hwb⟩ : ∃ wb, wb = wa.alloc (.cells #[.slice none 0 0] 22) := ⟨_, rfl⟩
    have gb : Grew wa wb := by rw [hwb]; exact grew_alloc _ _
    have HWB := Lib.hid hwb
    have kB : Blk wb wa.heap.size 22 #[.slice none 0 0] := by rw [hwb]; exact Blk.new _ _ _
    have KB := Lib.hid kB
    have GB := Lib.hid gb
    have hza : wa.heap.size = w1.heap.size + 1 := by rw [hwa]; simp
    have HZA := Lib.hid hza
    obtain ⟨c0, c1', c2, c3, c4, c5, c6, c7, c8, c9⟩ := mcells (K1A.out.grew gb)
    rw [hwb, hwa] at c0 c1' c2 c3 c4 c5 c6 c7 c8 c9
    clear he hE2 hmb kB gb hwb hza ga q2 q2a g1 hg1 hz0 hwa kE
    have hne : ((0 : Int) != 0) = false := rfl
    gi_wp2_with (gi_at_call 59; refine (callsIn_wide.2 (KE.out _)).mono ?_; rintro e w2 ⟨rfl, rfl⟩)
    clear u0 u1 u2 u3 c0 c1' c2 c3 c4 c5 c6 c7 c8 c9
    rw [← HWA.out]
    have e1 : w1.heap.size + 1 = wa.heap.size := HZA.out.symm
    have hzb : wb.heap.size = wa.heap.size + 1 := by rw [HWB.out]; simp
    rw [e1, ← HWB.out, ← hzb]
    have gm := grew_alloc wb (.cells (msgA m (.slice a m.l.length c)) 29)
    have gi := grew_alloc (wb.alloc (.cells (msgA m (.slice a m.l.length c)) 29)) (.cells #[.int .i64 ver] 3)
    have hgb := HGA.out.trans GB.out
    have hgc := (hgb.trans gm).trans gi
    have hmB : Blk ((wb.alloc (.cells (msgA m (.slice a m.l.length c)) 29)).alloc (.cells #[.int .i64 ver] 3)) wb.heap.size 29 (msgA m (.slice a m.l.length c)) := (Blk.new _ _ _).alloc _
    have hiB : Blk ((wb.alloc (.cells (msgA m (.slice a m.l.length c)) 29)).alloc (.cells #[.int .i64 ver] 3)) (wb.heap.size + 1) 3 #[.int .i64 ver] := Blk.new2 _ _ _ _
    have hz9 := hgb.size
    refine wpIn_iterW (gf := 83) (lb := #[.pointer (some ⟨wb.heap.size, 0, none⟩), .pointer (some ⟨wb.heap.size + 1, 0, none⟩)]) rfl (enters_of Tryz.func83 (by kernel_rfl) rfl)
      (KI.out wb.heap.size (wb.heap.size + 1) w.heap.size _ hgc.size hmB hiB (fun w' h => HL.out.grew (Below.trans hgc h)))
      (fun A B e => keepsOthers_grew e) (fun A B C h1 h2 => ⟨h2.below h1.1 (by simp; omega), h1.2.ck h2⟩) (fun _ => rfl)
      (EncI L w wa.heap.size) (fun _ _ _ => False) (fun pre A B h e => h.grew e) (fun pre A B h hc => h.ck hc (by simp; omega)) (fun _ _ _ _ h e => h.elim) (fun _ _ _ _ h hc => h.elim)
      ⟨_, (KB.out.grew gm).grew gi, ownB_nil _ _, ((Q2.out.grew GB.out).grew gm).grew gi, hgc, Nat.zero_le _, Nat.zero_le _⟩ ?round ?done ?stop
    case stop => exact fun _ _ _ _ h => h.elim
    case done =>
      rintro xs W hS ⟨v, h1, h2, h3, h4, h5, h6⟩ hD
      rw [hS] at h2
      obtain ⟨a9, n9, c9, rfl, hn9⟩ := bs_shape (Sl.of_own h2)
      have y1 := h1.cell 0
      simp only [List.getElem?_toArray, List.getElem?_cons_zero] at y1
      obtain ⟨x0, x1, x2, x3⟩ := cells_of h3
      have H2 := Lib.hid h2
      have H3 := Lib.hid h3
      have H4 := Lib.hid h4
      have HD := Lib.hid hD
      clear h1 h2 h3 h4 h5 h6 hS hD hmB hiB gm gi hgb hgc hz9 e1 hzb
      gi_wp2
      obtain ⟨W9, hW9⟩ : ∃ W9, W9 = ((W.setCell ⟨w.heap.size + 1, 0, none⟩ (.int .i64 0)).setCell ⟨w.heap.size + 1, 1, none⟩ (.int .i64 0)) := ⟨_, rfl⟩
      try rw [← hW9]
      have r1 : Blk W9 (w.heap.size + 1) 32 #[.int .i64 0, .int .i64 0] := by rw [hW9]; exact (H3.out.set 0 _).set 1 _
      have r2 : OwnB W9 w.heap.size (.slice a9 n9 c9) (L.map (fR m)).flatten := by
        rw [hW9]
        exact own_set (own_set H2.out ⟨w.heap.size + 1, 0, none⟩ (.int .i64 0) (fun e => blk_ne_row H3.out H2.out (by decide) e.symm)) ⟨w.heap.size + 1, 1, none⟩ (.int .i64 0) (fun e => blk_ne_row H3.out H2.out (by decide) e.symm)
      have r3 : Grew w W9 := by rw [hW9]; exact grew_set (grew_set H4.out (by omega) _) (by omega) _
      have hzz : w.heap.size + 1 < wb.heap.size := by have := HZ0.out; have := HZA.out; have := GB.out.size; omega
      have hD9 : W9.heap[wb.heap.size + 1 + 1]? = some (.deferred (some [])) := by
        have hD := HD.out
        simp only [World.size_alloc] at hD
        rw [hW9]
        exact (heap_setCell_other _ ⟨w.heap.size + 1, 1, none⟩ _ _ (by simp; omega)).trans ((heap_setCell_other _ ⟨w.heap.size + 1, 0, none⟩ _ _ (by simp; omega)).trans hD)
      clear hW9
      have hck := CK.putObj w.heap.size W9 _ _ (.deferred none) hD9 rfl (by omega)
      refine ⟨by simp, .inl ⟨_, _, rfl, run_takeDeferred (by simpa using hD9), ?_⟩⟩
      simp only [World.size_alloc]
      refine ⟨_, results_tc rfl _ _ ⟨w.heap.size + 1, 0, none⟩ _ _ rfl rfl (loadVar_fault _ _ _ rfl (hck.blk r1)), ?_⟩
      rw [HMB.out, ← HE.out]
      exact ⟨_, rfl, hck.own r2, Below.trans r3 (hck.toBelow (Nat.le_refl _))⟩
    case round =>
      rintro lp pre ⟨B, pv⟩ W hi ⟨hk1, hk2, hpv⟩
      have hB : B.length ≤ 8212000 := by
        have hmem : B ∈ (L.take (pre.length + 1)).map (fR m) := by rw [← hk2]; simp
        obtain ⟨r, hr, rfl⟩ := List.mem_map.1 hmem
        exact fieldF_len HM.out ⟨by omega, HNM.out r (List.mem_of_mem_take hr)⟩
      obtain ⟨a1, n1, cp, rfl, hn1⟩ := bs_shape hpv
      simp only at hk1 hk2 hpv hB
      have HB := Lib.hid hB
      have HPV := Lib.hid hpv
      have HK := Lib.hid hk1
      simp only [encE]
      clear hk2 hB hpv hmB hiB gm gi hgb hgc hz9 e1 hzb hk1
      gi_wp2
      refine ⟨KeepsOthers.refl _, ?_⟩
      rintro W2 hck hsz ⟨v, h1, h2, h3, h4, h5, h6⟩
      obtain ⟨a9, n9, c9, rfl, hn9⟩ := bs_shape (Sl.of_own h2)
      have hp2 := HPV.out.ext hck.ext
      have y1 := h1.cell 0
      have y2 := h1.frozen 0
      simp only [List.getElem?_toArray, List.getElem?_cons_zero] at y1
      have hkT : KeepT EnT W W2 := (KeepT.of_grew (Below.refl _ _)).ck hck
      have hkB : Below w.heap.size W W2 := hck.toBelow (by have := HGA.out.size; have := GB.out.size; simp; omega)
      have H1 := Lib.hid h1
      have H2 := Lib.hid h2
      have H3 := Lib.hid h3
      have H4 := Lib.hid h4
      have H5 := Lib.hid h5
      have H6 := Lib.hid h6
      have HP := Lib.hid hp2
      clear h1 h2 h3 h4 h5 h6 hp2 hck hsz hi
      have hsum : (pre.map (·.1)).flatten.length + B.length ≤ 140737488355328 := by have := H5.out; have := H6.out; have := HB.out; have := HLE.out; omega
      have HSUM := Lib.hid hsum
      clear hsum
      gi_wp2_with (gi_at_builtin; refine wpListIn_push rfl _ _ rfl w.heap.size (.slice a9 n9 c9) (pre.map (·.1)).flatten rfl H2.out (.slice a1 n1 cp) rfl B HP.out HSUM.out H4.out.size ?_; intro v' w3 hown3 hB3 hgb; obtain ⟨a8, n8, c8, rfl, -⟩ := bs_shape (Sl.of_own hown3); have h1w := H1.out.kept hgb (blk_ne_row H1.out H2.out (by decide)); have f9 := h1w.frozen 0; have y9 := h1w.cell 0; simp only [List.getElem?_toArray, List.getElem?_cons_zero] at y9)
      have hfl : ((pre ++ [(B, (Value.slice a1 n1 cp : Value))]).map (·.1)).flatten = (pre.map (·.1)).flatten ++ B := by simp
      have hzw : w.heap.size + 1 < wa.heap.size := by have := HZ0.out; have := HZA.out; omega
      refine ⟨(keepsOthers_app H2.out hgb).trans (KeepsOthers.setCell _ _ _), ⟨grew_set (Below.trans hkB hB3) (by omega) _, (hkT.grown H2.out (by unfold EnT; decide) hgb).set h1w (by unfold EnT; decide) 0 _⟩, ?_⟩
      refine ⟨_, h1w.set 0 _, ?_, ((H3.out.kept hgb (blk_ne_row H3.out H2.out (by decide))).other ⟨wa.heap.size, 0, none⟩ _ (by simp; omega)), grew_set (Below.trans H4.out hB3) (by omega) _, ?_, ?_⟩
      · rw [hfl]; exact own_set hown3 ⟨wa.heap.size, 0, none⟩ _ (fun e => blk_ne_row h1w hown3 (by decide) e.symm)
      · rw [hfl, List.length_append, List.length_append]
        have := H5.out; have := HB.out
        show _ ≤ (pre.length + 1) * 8212000
        omega
      · rw [List.length_append]; have := HK.out; show pre.length + 1 ≤ _; omega
end Go.Proofs.YtbjoohafgkodcaaGreat
