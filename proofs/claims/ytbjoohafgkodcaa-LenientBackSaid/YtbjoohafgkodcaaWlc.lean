/- LenientBack: a message that may be has bounded parts; the walk. -/
import Derived.Test.YtbjoohafgkodcaaWl9
import Derived.Test.YtbjoohafgkodcaaLe3
import Derived.Test.YtbjoohafgkodcaaEnb
namespace Go.Proofs.Ytbjoohafgkodcaa
open Go Go.RowKit Go.Shelf
attribute [local go_sem] Oper.semAt_some

theorem same_refl3 (a : Msg) : sameB a a = true := sameB_iff.2 ⟨rfl, fun _ _ => rfl, fun _ _ => rfl, rfl⟩
theorem hasS_iff' (l : List Row) (i : Nat) : hasS l i = true ↔ ∃ r ∈ l, 7 ≤ rTyp r ∧ rTyp r ≤ 9 ∧ rSlot r = i := by
  unfold hasS; simp [List.any_eq_true, and_assoc]
theorem hasL_iff' (l : List Row) : hasL l = true ↔ ∃ r ∈ l, 10 ≤ rTyp r := by
  unfold hasL; simp [List.any_eq_true]
theorem txtB_nat' (t : Nat) : txtB (t : Int) = true ↔ 7 ≤ t ∧ t ≤ 9 := by unfold txtB; simp; omega
theorem firstE0 {most : Int} {l : List ByteArray} (h : firstE most l = 0) : ∀ s ∈ l, chkV s most = 0 := by
  induction l with
  | nil => intro s hs; cases hs
  | cons x l ih =>
    unfold firstE at h
    intro s hs
    by_cases hx : chkV x most = 0
    · rw [if_pos hx] at h
      rcases List.mem_cons.1 hs with rfl | hs
      · exact hx
      · exact ih h s hs
    · rw [if_neg hx] at h
      exact absurd h hx
theorem mostV_le (t : Int) : mostV t ≤ 1000000 := by
  unfold mostV
  repeat' split
  all_goals omega
theorem chk_okE {m : Msg} {ver : Int} (h : (chkM m (ofKind m.k (rowsIn ver))).1 = 0) (hn : ∀ i, i < 6 → m.n i < 18446744073709551616) : okE m := by
  obtain ⟨he, hs⟩ := chk_oks h
  obtain ⟨-, -, es, el⟩ := sameB_iff.1 hs
  have key : hasL (ofKind m.k (rowsIn ver)) = true → (∀ s ∈ m.l, s.size ≤ 1000000) ∧ m.l.length ≤ 1000 := fun hL => by
    obtain ⟨r, hr, h10⟩ := (hasL_iff' _).1 hL
    have e10 : rTyp r = 10 := by have := rows_ok r (ofKind_sub hr).1; omega
    have h' := he r hr
    unfold errR errM at h'
    rw [e10, if_neg (by omega), if_neg (by decide)] at h'
    have hp : plL m ((10 : Nat) : Int) = m.l := rfl
    rw [hp] at h'
    by_cases hl : 64 < m.l.length
    · rw [if_pos hl] at h'; simp at h'
    rw [if_neg hl] at h'
    exact ⟨fun s hs => by have h1 := chkV_sz (firstE0 h' s hs); have h2 := mostV_le ((10 : Nat) : Int); omega, by omega⟩
  have ekl : (if hasL (ofKind m.k (rowsIn ver)) = true then m.l else []) = m.l := el
  refine ⟨fun i hi => ?_, ?_, ?_, hn⟩
  · have e : (if hasS (ofKind m.k (rowsIn ver)) i = true then m.s i else ⟨#[]⟩) = m.s i := es i hi
    by_cases hS : hasS (ofKind m.k (rowsIn ver)) i = true
    · obtain ⟨r, hr, h7, h9, hsl⟩ := (hasS_iff' _ _).1 hS
      have h' := he r hr
      have hx : txtB (rTyp r : Int) = true := (txtB_nat' _).2 ⟨h7, h9⟩
      unfold errR errM at h'
      rw [if_neg (by omega), if_pos hx, hsl] at h'
      have h1 := chkV_sz h'
      have h2 := mostV_le (rTyp r : Int)
      have h3 : plS m (rTyp r : Int) (i : Int) = m.s i := by unfold plS; rw [if_pos ⟨hx, by omega, by omega⟩]; simp
      rw [h3] at h1
      omega
    · rw [if_neg hS] at e
      rw [← e]
      exact Nat.zero_le _
  · by_cases hL : hasL (ofKind m.k (rowsIn ver)) = true
    · exact (key hL).1
    · rw [if_neg hL] at ekl
      rw [← ekl]
      intro s hs
      cases hs
  · by_cases hL : hasL (ofKind m.k (rowsIn ver)) = true
    · exact (key hL).2
    · rw [if_neg hL] at ekl
      rw [← ekl]
      exact Nat.zero_le _
set_option maxRecDepth 100000 in
set_option maxHeartbeats 8000000 in
theorem lback_walk (m : Msg) (v : Value) (ver : Int) (l : List UInt8) (bv : Value) (w : World) (hm : MsgR w v m) (hn : ∀ i, i < 6 → m.n i < 18446744073709551616) (hb : Bs w bv l) :
    Calls Try.prog 5 #[v, .int .i64 ver, bv] w fun e w' => e = .returned (.bool true) ∧ Grew w w' := by
  obtain ⟨lv, rfl, hl, -⟩ := hm
  obtain ⟨a, c, rfl⟩ := tx_len hl
  obtain ⟨xa, xc, rfl⟩ := bs_len hb
  obtain ⟨W0, hW0⟩ : ∃ W0, W0 = w.alloc (.cells (msgA m (.slice a m.l.length c)) 29) := ⟨_, rfl⟩
  have g0 : Grew w W0 := by rw [hW0]; exact grew_alloc _ _
  have K0 := Lib.hid (show Blk W0 w.heap.size 29 (msgA m (.slice a m.l.length c)) by rw [hW0]; exact Blk.new _ _ _)
  have G0 := Lib.hid g0
  have HL := Lib.hid hl
  have HB := Lib.hid hb
  have HN := Lib.hid hn
  simp only [msgA] at hW0 ⊢
  clear g0 hl hb hn
  go_enter Try.func5, Try.ntmps5
  go_upto_region 1 with (fail)
  rw [← hW0]
  clear hW0
  go_wp2_with fail
  refine (live11_any _).mono ?_
  rintro e w1 ⟨rfl, g1⟩
  have G1 := Lib.hid (G0.out.trans g1)
  have D1 := Lib.hid g1
  have KSM := Lib.hid (small9_any m _ w1 (HL.out.grew G1.out))
  obtain ⟨c0, c1, c2, c3, c4, c5, c6, c7, c8, c9⟩ := mcells (K0.out.grew g1)
  simp only [msgA] at KSM
  clear g1
  go_wp2_with fail
  refine KSM.out.mono ?_
  rintro e w2 ⟨rfl, g2⟩
  have G2 := Lib.hid (G1.out.trans g2)
  have D2 := Lib.hid (D1.out.trans g2)
  clear g2 c0 c1 c2 c3 c4 c5 c6 c7 c8 c9 KSM
  cases hs : smallB m with
  | false =>
    clear hs
    go_wp2
    go_ret
    exact ⟨rfl, G2.out⟩
  | true =>
  have HE := Lib.hid (small_ok hs HN.out)
  clear hs
  by_cases hlx : 10000 < l.length
  · have q : decide ((l.length : Int) > 10000) = true := decide_eq_true (by omega)
    go_wp2
    go_ret
    exact ⟨rfl, G2.out⟩
  have q : decide ((l.length : Int) > 10000) = false := decide_eq_false (by omega)
  have KDB := Lib.hid (fun W (g : Grew w W) => ldecode_any m.k ver l (.slice xa l.length xc) W (HB.out.grew g) (by omega))
  have HDM := Lib.hid (fun h => dec_may (k := m.k) (ver := ver) (b := l) h)
  have HDE := Lib.hid (fun h => decM_err (k := m.k) (ver := ver) (b := l) h)
  have KE := Lib.hid (fun W (g : Grew w W) => ebytes_any m a c ver W HE.out (HL.out.grew g))
  have HOWN := Lib.hid (fun h => dec_own (m := m) (ver := ver) h HN.out)
  have HLEN := Lib.hid (fun h => (small_msg (m := m) (ver := ver) h HN.out).2.1)
  obtain ⟨D, hD⟩ : ∃ D, D = decM m.k ver l := ⟨_, rfl⟩
  unfold DecP at KDB
  rw [← hD] at KDB HDM HDE
  obtain ⟨Dm, De, Da⟩ := D
  have HDC := Lib.hid (fun (h : De = 0) lv W (ht : Tx W lv Dm.l) => by
    have hi := HDM.out h
    have hc : chkM Dm (ofKind Dm.k (rowsIn ver)) = (0, 0) := by rw [hi.1.kind]; exact hi.2
    have ho := chk_okE (m := Dm) (ver := ver) (by rw [hc]) hi.1.lt
    have hk := vcheck_any Dm lv ver W (okE_okM ho) ht (by have := ho.2.2.1; omega)
    rw [hc] at hk
    exact hk)
  have HDZ := Lib.hid (fun (h : De ≠ 0) => (show Dm = mZ from HDE.out h))
  obtain ⟨E, hE⟩ : ∃ E, E = chkM m (ofKind m.k (rowsIn ver)) := ⟨_, rfl⟩
  obtain ⟨B, hB⟩ : ∃ B, B = msgB m (ofKind m.k (rowsIn ver)) := ⟨_, rfl⟩
  rw [← hE, ← hB] at KE HOWN
  rw [← hE, ← hB] at HLEN
  obtain ⟨M, hM⟩ : ∃ M, M = cleanM m (ofKind m.k (rowsIn ver)) := ⟨_, rfl⟩
  rw [← hM] at HOWN
  simp only [msgA, fltV] at KE
  simp only [msgA, fltI] at KDB
  clear hD hE hB hM HDM HDE hlx
  obtain ⟨c0, c1, c2, c3, c4, c5, c6, c7, c8, c9⟩ := mcells (K0.out.grew D2.out)
  go_wp2_with fail
  refine (KE.out _ G2.out).mono ?_
  rintro e w3 ⟨v3, rfl, ho3, g3⟩
  obtain ⟨a3, c3', rfl⟩ := bs_len (Sl.of_own ho3)
  obtain ⟨V3, hV3⟩ : ∃ V, V = w3.alloc (.cells #[.int .i64 (E.1 : Nat), .int .i64 (E.2 : Nat)] 32) := ⟨_, rfl⟩
  have gv : Grew w3 V3 := by rw [hV3]; exact grew_alloc _ _
  have kf3 : Blk V3 w3.heap.size 32 #[.int .i64 (E.1 : Nat), .int .i64 (E.2 : Nat)] := by rw [hV3]; exact Blk.new _ _ _
  have HO3 := Lib.hid (own_grew ho3 gv)
  have D3 := Lib.hid (D2.out.trans (g3.trans gv))
  have G3 := Lib.hid (G2.out.trans (g3.trans gv))
  obtain ⟨x0, x1, -, -⟩ := cells_of kf3
  clear g3 gv ho3 c0 c1 c2 c3 c4 c5 c6 c7 c8 c9 KE kf3
  obtain ⟨c0, c1, c2, c3, c4, c5, c6, c7, c8, c9⟩ := mcells (K0.out.grew D3.out)
  go_upto_region 6 with (fail)
  rw [← hV3]
  clear hV3
  by_cases he : E.1 = 0
  · have qe : ((E.1 : Int) == 0) = true := by simp; omega
    obtain ⟨hdec, hunk, hsame⟩ := HOWN.out he
    have hlen := HLEN.out he
    have KD1 := Lib.hid (fun W (g : Grew V3 W) => ldecode_any m.k ver B _ W (Sl.of_own (own_grew HO3.out g)) (by omega))
    have KU1 := Lib.hid (fun W (g : Grew V3 W) => lunknown_any m.k ver B _ W (Sl.of_own (own_grew HO3.out g)) (by omega))
    obtain ⟨U, hU⟩ : ∃ U, U = unkM m.k ver B := ⟨_, rfl⟩
    unfold DecP at KD1
    unfold UnkP at KU1
    rw [hdec] at KD1
    rw [← hU] at KU1 hunk
    obtain ⟨Ul, Ue, Ua⟩ := U
    simp only at hunk
    subst hunk
    simp only [msgA, fltI] at KD1 KU1
    have HSAME := Lib.hid hsame
    clear hdec hU hlen he hsame
    go_wp2_with fail
    refine (KD1.out _ (Below.refl _ _)).mono ?_
    rintro e w4 ⟨lv4, rfl, ho4, g4⟩
    obtain ⟨a4, c4', rfl⟩ := tx_len (Sl.of_own ho4)
    obtain ⟨V4, hV4⟩ : ∃ V, V = (w4.alloc (.cells (msgA M (.slice a4 M.l.length c4')) 29)).alloc (.cells #[.int .i64 (0 : Nat), .int .i64 0] 32) := ⟨_, rfl⟩
    have gv : Grew w4 V4 := by rw [hV4]; exact grew22 _ _ _
    have KM4 := Lib.hid (show Blk V4 w4.heap.size 29 (msgA M (.slice a4 M.l.length c4')) by rw [hV4]; exact (Blk.new _ _ _).alloc _)
    have KF4 := Lib.hid (show Blk V4 (w4.heap.size + 1) 32 #[.int .i64 (0 : Nat), .int .i64 0] by rw [hV4]; exact Blk.at (by simp))
    have HO4 := Lib.hid (own_grew ho4 gv)
    have M4 := Lib.hid (g4.trans gv)
    have D4 := Lib.hid (D3.out.trans M4.out)
    have G4 := Lib.hid (G3.out.trans M4.out)
    simp only [msgA, Int.natCast_zero] at hV4
    clear g4 gv ho4 c0 c1 c2 c3 c4 c5 c6 c7 c8 c9 KD1 x0 x1
    obtain ⟨c0, c1, c2, c3, c4, c5, c6, c7, c8, c9⟩ := mcells (K0.out.grew D4.out)
    go_upto_region 8 with (fail)
    rw [← hV4]
    clear hV4
    go_wp2_with fail
    refine (KU1.out _ M4.out).mono ?_
    rintro e w5 ⟨rv, rfl, hf5, g5⟩
    obtain ⟨a5, c5', rfl⟩ := hf5.frs.shape
    obtain ⟨V5, hV5⟩ : ∃ V, V = w5.alloc (.cells #[.int .i64 (Ue : Nat), .int .i64 Ua] 32) := ⟨_, rfl⟩
    have gv : Grew w5 V5 := by rw [hV5]; exact grew_alloc _ _
    have M5 := Lib.hid (g5.trans gv)
    have D5 := Lib.hid (D4.out.trans M5.out)
    have G5 := Lib.hid (G4.out.trans M5.out)
    have KS := Lib.hid (vsame_any M m (.slice a4 M.l.length c4') (.slice a m.l.length c) V5 (Sl.of_own (own_grew HO4.out M5.out)) (HL.out.grew G5.out))
    rw [HSAME.out] at KS
    clear c0 c1 c2 c3 c4 c5 c6 c7 c8 c9 KU1
    obtain ⟨c0, c1, c2, c3, c4, c5, c6, c7, c8, c9⟩ := mcells (K0.out.grew D5.out)
    obtain ⟨d0, d1, d2, d3, d4, d5, d6, d7, d8, d9⟩ := mcells (KM4.out.grew M5.out)
    obtain ⟨y0, y1, -, -⟩ := cells_of (KF4.out.grew M5.out)
    simp only [msgA] at KS
    clear hf5 g5 gv
    go_upto_region 9 with (fail)
    rw [← hV5]
    clear hV5
    go_wp2_with fail
    refine KS.out.mono ?_
    rintro e w6 ⟨rfl, g6⟩
    have D6 := Lib.hid (D5.out.trans g6)
    have G6 := Lib.hid (G5.out.trans g6)
    clear c0 c1 c2 c3 c4 c5 c6 c7 c8 c9 d0 d1 d2 d3 d4 d5 d6 d7 d8 d9 y0 y1 KS g6
    obtain ⟨c0, c1, c2, c3, c4, c5, c6, c7, c8, c9⟩ := mcells (K0.out.grew D6.out)
    go_wp2_with fail
    refine (KDB.out _ G6.out).mono ?_
    rintro e w8 ⟨lv8, rfl, ho8, g8⟩
    obtain ⟨a8, c8', rfl⟩ := tx_len (Sl.of_own ho8)
    obtain ⟨V8, hV8⟩ : ∃ V, V = (w8.alloc (.cells (msgA Dm (.slice a8 Dm.l.length c8')) 29)).alloc (.cells #[.int .i64 (De : Nat), .int .i64 Da] 32) := ⟨_, rfl⟩
    have gv : Grew w8 V8 := by rw [hV8]; exact grew22 _ _ _
    have km8 : Blk V8 w8.heap.size 29 (msgA Dm (.slice a8 Dm.l.length c8')) := by rw [hV8]; exact (Blk.new _ _ _).alloc _
    have kf8 : Blk V8 (w8.heap.size + 1) 32 #[.int .i64 (De : Nat), .int .i64 Da] := by rw [hV8]; exact Blk.at (by simp)
    have T8 := Lib.hid (Sl.of_own (own_grew ho8 gv))
    have G8 := Lib.hid ((G6.out.trans g8).trans gv)
    obtain ⟨x0, x1, -, -⟩ := cells_of kf8
    clear c0 c1 c2 c3 c4 c5 c6 c7 c8 c9
    obtain ⟨c0, c1, c2, c3, c4, c5, c6, c7, c8, c9⟩ := mcells km8
    simp only [msgA] at hV8
    clear ho8 g8 gv km8 kf8
    go_upto_region 12 with (fail)
    rw [← hV8]
    clear hV8
    by_cases hde : De = 0
    · have qd : ((De : Int) != 0) = false := by simp; omega
      have KC := Lib.hid (HDC.out hde _ V8 T8.out)
      simp only [msgA, fltV] at KC
      clear hde
      go_wp2_with fail
      refine KC.out.mono ?_
      rintro e w9 ⟨rfl, g9⟩
      go_wp2
      go_ret
      exact ⟨rfl, G8.out.trans g9⟩
    · have qd : ((De : Int) != 0) = true := by simp; omega
      have KS := Lib.hid (vsame_any Dm mZ (.slice a8 Dm.l.length c8') (.slice none 0 0) V8 T8.out (Sl.nil V8 1))
      rw [HDZ.out hde, same_refl3] at KS
      rw [HDZ.out hde] at c0 c1 c2 c3 c4 c5 c6 c7 c8 c9
      simp only [msgA, mZ, Int.natCast_zero] at KS c0 c1 c2 c3 c4 c5 c6 c7 c8 c9
      clear hde
      go_wp2_with fail
      refine KS.out.mono ?_
      rintro e w9 ⟨rfl, g9⟩
      go_wp2
      go_ret
      exact ⟨rfl, G8.out.trans g9⟩
  · have qe : ((E.1 : Int) == 0) = false := by simp; omega
    clear he
    go_wp2_with fail
    refine (KDB.out _ G3.out).mono ?_
    rintro e w8 ⟨lv8, rfl, ho8, g8⟩
    obtain ⟨a8, c8', rfl⟩ := tx_len (Sl.of_own ho8)
    obtain ⟨V8, hV8⟩ : ∃ V, V = (w8.alloc (.cells (msgA Dm (.slice a8 Dm.l.length c8')) 29)).alloc (.cells #[.int .i64 (De : Nat), .int .i64 Da] 32) := ⟨_, rfl⟩
    have gv : Grew w8 V8 := by rw [hV8]; exact grew22 _ _ _
    have km8 : Blk V8 w8.heap.size 29 (msgA Dm (.slice a8 Dm.l.length c8')) := by rw [hV8]; exact (Blk.new _ _ _).alloc _
    have kf8 : Blk V8 (w8.heap.size + 1) 32 #[.int .i64 (De : Nat), .int .i64 Da] := by rw [hV8]; exact Blk.at (by simp)
    have T8 := Lib.hid (Sl.of_own (own_grew ho8 gv))
    have G8 := Lib.hid ((G3.out.trans g8).trans gv)
    obtain ⟨x0, x1, -, -⟩ := cells_of kf8
    clear c0 c1 c2 c3 c4 c5 c6 c7 c8 c9
    obtain ⟨c0, c1, c2, c3, c4, c5, c6, c7, c8, c9⟩ := mcells km8
    simp only [msgA] at hV8
    clear ho8 g8 gv km8 kf8
    go_upto_region 12 with (fail)
    rw [← hV8]
    clear hV8
    by_cases hde : De = 0
    · have qd : ((De : Int) != 0) = false := by simp; omega
      have KC := Lib.hid (HDC.out hde _ V8 T8.out)
      simp only [msgA, fltV] at KC
      clear hde
      go_wp2_with fail
      refine KC.out.mono ?_
      rintro e w9 ⟨rfl, g9⟩
      go_wp2
      go_ret
      exact ⟨rfl, G8.out.trans g9⟩
    · have qd : ((De : Int) != 0) = true := by simp; omega
      have KS := Lib.hid (vsame_any Dm mZ (.slice a8 Dm.l.length c8') (.slice none 0 0) V8 T8.out (Sl.nil V8 1))
      rw [HDZ.out hde, same_refl3] at KS
      rw [HDZ.out hde] at c0 c1 c2 c3 c4 c5 c6 c7 c8 c9
      simp only [msgA, mZ, Int.natCast_zero] at KS c0 c1 c2 c3 c4 c5 c6 c7 c8 c9
      clear hde
      go_wp2_with fail
      refine KS.out.mono ?_
      rintro e w9 ⟨rfl, g9⟩
      go_wp2
      go_ret
      exact ⟨rfl, G8.out.trans g9⟩
end Go.Proofs.Ytbjoohafgkodcaa
