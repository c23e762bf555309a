/- WholeWithout: the walk. ; A message of which one field has nothing: its bytes are those of all other fields. No walk. -/
import Derived.Test.YtcibhkiddeggmaaEnq
import Derived.Deep.CutRange
import Derived.Deep.CutBlock
import Derived.Test.YtcibhkiddeggmaaEnb
import Derived.Test.YtcibhkiddeggmaaSkF
import Derived.Test.YtcibhkiddeggmaaSkB
namespace Go.Proofs.Ytcibhkiddeggmaa
open Go Go.RowKit Go.Shelf

/-- a message without one of its fields -/
def clearM (m : Msg) (r : Row) : Msg :=
  if r.2.2.1 = 10 then ⟨m.k, m.n, m.s, []⟩
  else if 6 < r.2.2.1 then ⟨m.k, m.n, fun i => if i = r.2.2.2.1 then ⟨#[]⟩ else m.s i, m.l⟩
  else ⟨m.k, fun i => if i = r.2.2.2.1 then 0 else m.n i, m.s, m.l⟩
theorem clearM_k (m : Msg) (r : Row) : (clearM m r).k = m.k := by unfold clearM; split; rfl; split <;> rfl
theorem rows_place : ∀ r ∈ rowsAll, ∀ r' ∈ rowsAll, r.1 = r'.1 → r.2.1 ≠ r'.2.1 → ¬ (r.2.2.1 = 10 ∧ r'.2.2.1 = 10) ∧ ¬ (6 < r.2.2.1 ∧ r.2.2.1 < 10 ∧ 6 < r'.2.2.1 ∧ r'.2.2.1 < 10 ∧ r.2.2.2.1 = r'.2.2.2.1) ∧ ¬ (r.2.2.1 ≤ 6 ∧ r'.2.2.1 ≤ 6 ∧ r.2.2.2.1 = r'.2.2.2.1) := by decide
theorem clear_n {m : Msg} {r : Row} {i : Nat} : (clearM m r).n i = if r.2.2.1 ≤ 6 ∧ i = r.2.2.2.1 then 0 else m.n i := by
  unfold clearM
  by_cases h10 : r.2.2.1 = 10
  · rw [if_pos h10, if_neg (by omega)]
  rw [if_neg h10]
  by_cases h6 : 6 < r.2.2.1
  · rw [if_pos h6, if_neg (by omega)]
  · rw [if_neg h6]
    by_cases e : i = r.2.2.2.1
    · rw [if_pos ⟨by omega, e⟩]; simp only; rw [if_pos e]
    · rw [if_neg (fun h => e h.2)]; simp only; rw [if_neg e]
theorem clear_s {m : Msg} {r : Row} {i : Nat} : (clearM m r).s i = if (6 < r.2.2.1 ∧ r.2.2.1 ≠ 10) ∧ i = r.2.2.2.1 then ⟨#[]⟩ else m.s i := by
  unfold clearM
  by_cases h10 : r.2.2.1 = 10
  · rw [if_pos h10, if_neg (by omega)]
  rw [if_neg h10]
  by_cases h6 : 6 < r.2.2.1
  · rw [if_pos h6]
    by_cases e : i = r.2.2.2.1
    · rw [if_pos ⟨⟨h6, h10⟩, e⟩]; simp only; rw [if_pos e]
    · rw [if_neg (fun h => e h.2)]; simp only; rw [if_neg e]
  · rw [if_neg h6, if_neg (by omega)]
theorem clear_l {m : Msg} {r : Row} : (clearM m r).l = if r.2.2.1 = 10 then [] else m.l := by
  unfold clearM
  split
  · rfl
  split <;> rfl
/-- other fields stay -/
theorem clear_other {m : Msg} {r r' : Row} (hr : r ∈ rowsAll) (hr' : r' ∈ rowsAll) (hk : r.1 = r'.1) (hne : r.2.1 ≠ r'.2.1) :
    plN (clearM m r) r'.2.2.1 r'.2.2.2.1 = plN m r'.2.2.1 r'.2.2.2.1 ∧ plS (clearM m r) r'.2.2.1 r'.2.2.2.1 = plS m r'.2.2.1 r'.2.2.2.1 ∧ plL (clearM m r) r'.2.2.1 = plL m r'.2.2.1 := by
  obtain ⟨p1, p2, p3⟩ := rows_place r hr r' hr' hk hne
  refine ⟨?_, ?_, ?_⟩
  · unfold plN
    split
    · rename_i h
      have := numB_iff.1 h.1
      rw [clear_n, if_neg (fun e => p3 ⟨e.1, by omega, by have := e.2; omega⟩)]
    · rfl
  · unfold plS
    split
    · rename_i h
      have := txtB_iff.1 h.1
      have t1 := (rows_ok r hr).2.1
      simp only [rTyp] at t1
      rw [clear_s, if_neg (fun e => p2 ⟨e.1.1, by omega, by omega, by omega, by have := e.2; omega⟩)]
    · rfl
  · unfold plL
    split
    · rename_i h
      rw [clear_l, if_neg (fun e => p1 ⟨e, by omega⟩)]
    · rfl
theorem clear_def {m : Msg} {r : Row} (hr : r ∈ rowsAll) : defB (clearM m r) r.2.2.1 r.2.2.2.1 = true := by
  obtain ⟨t1, t2, t3, t4⟩ := rows_ok r hr
  simp only [rTyp, rSlot] at t1 t2 t3 t4
  by_cases h10 : r.2.2.1 = 10
  · have e : (r.2.2.1 : Int) = 10 := by omega
    rw [e, def_list, clear_l, if_pos h10]; rfl
  by_cases h6 : r.2.2.1 ≤ 6
  · rw [def_num (numB_iff.2 (by omega)) (by omega) (by have := t3 h6; omega), clear_n, if_pos ⟨h6, by omega⟩]; rfl
  · rw [def_txt (txtB_iff.2 (by omega)) (by omega) (by have := t4 (by omega) (by omega); omega), clear_s, if_pos ⟨⟨by omega, h10⟩, by omega⟩]
    simp [ByteArray.toList_eq]
theorem rowFs_place {a b : Msg} {r : Row} (e1 : plN a r.2.2.1 r.2.2.2.1 = plN b r.2.2.1 r.2.2.2.1) (e2 : plS a r.2.2.1 r.2.2.2.1 = plS b r.2.2.1 r.2.2.2.1) (e3 : plL a r.2.2.1 = plL b r.2.2.1) : rowFs a r = rowFs b r := by
  unfold rowFs defB
  rw [e1, e2, e3]
  split
  · rfl
  split
  · rename_i h
    unfold plL at e3
    rw [if_pos h, if_pos h] at e3
    rw [e3]
  · rfl
theorem errM_place {a b : Msg} {t sl : Int} (e1 : plN a t sl = plN b t sl) (e2 : plS a t sl = plS b t sl) (e3 : plL a t = plL b t) : errM a t sl = errM b t sl := by
  unfold errM; rw [e1, e2, e3]
theorem of_ne {k : Nat} {ver : Int} {r r' : Row} (hr : r ∈ ofKind k (rowsIn ver)) (hr' : r' ∈ ofKind k (rowsIn ver)) (h : r ≠ r') : r.1 = r'.1 ∧ r.2.1 ≠ r'.2.1 := by
  have e1 := ofKind_sub hr
  have e2 := ofKind_sub hr'
  exact ⟨by rw [e1.2, e2.2], fun e => h (rows_uniq r e1.1 r' e2.1 (by rw [e1.2, e2.2]) e)⟩
/-- the fields of a message without one are all others -/
theorem msgFs_clear {m : Msg} {ver : Int} {r : Row} (hr : r ∈ ofKind m.k (rowsIn ver)) : msgFs (clearM m r) (ofKind m.k (rowsIn ver)) = (msgFs m (ofKind m.k (rowsIn ver))).filter (fun x => !(fNum x == (r.2.1 : Int))) := by
  have h : ∀ L : List Row, (∀ x ∈ L, x ∈ ofKind m.k (rowsIn ver)) → msgFs (clearM m r) L = (msgFs m L).filter (fun x => !(fNum x == (r.2.1 : Int))) := by
    intro L
    induction L with
    | nil => intro _; rfl
    | cons a L ih =>
      intro hL
      show rowFs _ a ++ msgFs _ L = (rowFs m a ++ msgFs m L).filter _
      rw [List.filter_append, ← ih fun x hx => hL x (List.mem_cons_of_mem _ hx)]
      congr 1
      have ha := hL a (List.mem_cons_self ..)
      by_cases e : r = a
      · subst e
        have e1 : rowFs (clearM m r) r = [] := by unfold rowFs; rw [if_pos (clear_def (ofKind_sub hr).1)]
        rw [e1]
        symm
        rw [List.filter_eq_nil_iff]
        intro x hx
        rw [rowFs_num hx]; simp
      · obtain ⟨k1, k2⟩ := of_ne hr ha e
        obtain ⟨e1, e2, e3⟩ := clear_other (m := m) (ofKind_sub hr).1 (ofKind_sub ha).1 k1 k2
        rw [rowFs_place e1 e2 e3]
        symm
        rw [List.filter_eq_self]
        intro x hx
        rw [rowFs_num hx]
        simp
        omega
  exact h _ fun x hx => hx
/-- it may be -/
theorem chk_clear {m : Msg} {ver : Int} {r : Row} (hr : r ∈ ofKind m.k (rowsIn ver)) (h : (chkM m (ofKind m.k (rowsIn ver))).1 = 0) : chkM (clearM m r) (ofKind m.k (rowsIn ver)) = (0, 0) := by
  obtain ⟨he, hc⟩ := chk_oks h
  obtain ⟨cn, cs, cl⟩ := clean_at hc
  have hne : ofKind m.k (rowsIn ver) ≠ [] := fun e => by rw [e] at hr; cases hr
  have hf : (ofKind m.k (rowsIn ver)).find? (fun r' => errR (clearM m r) r' != 0) = none := by
    rw [List.find?_eq_none]
    intro r' hr'
    have hz : errR (clearM m r) r' = 0 := by
      by_cases e : r = r'
      · subst e
        exact def_err (clear_def (ofKind_sub hr).1) (by have := (of_ok hr).2.1; simp only [rTyp] at *; omega)
      · obtain ⟨k1, k2⟩ := of_ne hr hr' e
        obtain ⟨e1, e2, e3⟩ := clear_other (m := m) (ofKind_sub hr).1 (ofKind_sub hr').1 k1 k2
        exact (errM_place e1 e2 e3).trans (he r' hr')
    simp [hz]
  rw [chk_end hne hf, if_pos]
  refine sameB_iff.2 ⟨rfl, fun i hi => ?_, fun i hi => ?_, ?_⟩
  · show (if hasN _ i = true then _ else 0) = _
    by_cases hh : hasN (ofKind m.k (rowsIn ver)) i = true
    · rw [if_pos hh]
    · rw [if_neg hh, clear_n]
      split
      · rfl
      · exact (cn i hi (by simpa using hh)).symm
  · show (if hasS _ i = true then _ else (⟨#[]⟩ : ByteArray)) = _
    by_cases hh : hasS (ofKind m.k (rowsIn ver)) i = true
    · rw [if_pos hh]
    · rw [if_neg hh, clear_s]
      split
      · rfl
      · exact (cs i hi (by simpa using hh)).symm
  · show (if hasL _ = true then _ else []) = _
    by_cases hh : hasL (ofKind m.k (rowsIn ver)) = true
    · rw [if_pos hh]
    · rw [if_neg hh, clear_l]
      split
      · rfl
      · exact (cl (by simpa using hh)).symm
/-- a field, wherever it stood -/
def stF (x : Fld) : Fld := (x.1, x.2.1, x.2.2.1, x.2.2.2.1, 0)
theorem putF_st (x : Fld) : putF (stF x) = putF x := rfl
theorem putsF_st : ∀ (l : List Fld) (i : Nat), putsF i (l.map stF) = putsF i l
  | [], _ => rfl
  | x :: l, i => by rw [List.map_cons, putsF_cons, putsF_cons, putF_st, putsF_st l (i + 1)]
theorem read_st {m : Msg} {ver : Int} (h : (chkM m (ofKind m.k (rowsIn ver))).1 = 0) (hn : ∀ i, i < 6 → m.n i < 18446744073709551616) :
    (fieldsR (msgB m (ofKind m.k (rowsIn ver)))).1.map stF = msgFs m (ofKind m.k (rowsIn ver)) := by
  obtain ⟨-, -, -, hl, hk, hg⟩ := small_msg h hn
  refine List.ext_getElem (by rw [List.length_map, hl]) fun j h1 h2 => ?_
  rw [List.getElem_map]
  rw [List.length_map] at h1
  have e := likeF_iff.1 (hk j h1 h2)
  obtain ⟨r, -, g⟩ := hg _ (List.getElem_mem h2)
  have hp := g.pos
  exact Prod.ext e.1 (Prod.ext e.2.1 (Prod.ext e.2.2.1 (Prod.ext e.2.2.2 hp.symm)))
theorem bytesFs_pos {l : List Fld} (h : ∀ x ∈ l, (putF x).2 = 0) (hl : l ≠ []) : 1 ≤ (bytesFs l).length := by
  cases l with
  | nil => exact absurd rfl hl
  | cons x l =>
    have := putF_pos (h x (List.mem_cons_self ..))
    show 1 ≤ ((putF x).1 ++ bytesFs l).length
    rw [List.length_append]; omega
theorem bytesFs_split (p : Fld → Bool) (l : List Fld) : (bytesFs l).length = (bytesFs (l.filter p)).length + (bytesFs (l.filter fun x => !p x)).length := by
  induction l with
  | nil => rfl
  | cons x l ih =>
    show ((putF x).1 ++ bytesFs l).length = _
    rw [List.length_append, ih]
    cases h : p x with
    | true =>
      rw [List.filter_cons_of_pos h, List.filter_cons_of_neg (by simp [h])]
      show _ = ((putF x).1 ++ bytesFs _).length + _
      rw [List.length_append]; omega
    | false =>
      rw [List.filter_cons_of_neg (by simp [h]), List.filter_cons_of_pos (by simp [h])]
      show _ = _ + ((putF x).1 ++ bytesFs _).length
      rw [List.length_append]; omega
/-- what skip puts of all other fields are the message's bytes without that field; they are the same just if it had nothing -/
theorem without_law {m : Msg} {ver : Int} {r : Row} (hr : r ∈ ofKind m.k (rowsIn ver)) (h : (chkM m (ofKind m.k (rowsIn ver))).1 = 0) (hn : ∀ i, i < 6 → m.n i < 18446744073709551616) :
    putsF 0 ((fieldsR (msgB m (ofKind m.k (rowsIn ver)))).1.filter fun x => !(fNum x == (r.2.1 : Int))) = (msgB (clearM m r) (ofKind m.k (rowsIn ver)), 0, 0) ∧
    (msgB m (ofKind m.k (rowsIn ver)) == msgB (clearM m r) (ofKind m.k (rowsIn ver))) = defB m r.2.2.1 r.2.2.2.1 := by
  obtain ⟨hb, -, -, -, -, hg⟩ := small_msg h hn
  have hc := chk_clear hr h
  have hcb : msgB (clearM m r) (ofKind m.k (rowsIn ver)) = bytesFs (msgFs (clearM m r) (ofKind m.k (rowsIn ver))) := by unfold msgB; rw [if_neg (by rw [hc]; simp), msgB_fs]
  have hfl : ((fieldsR (msgB m (ofKind m.k (rowsIn ver)))).1.filter fun x => !(fNum x == (r.2.1 : Int))).map stF = msgFs (clearM m r) (ofKind m.k (rowsIn ver)) := by
    rw [msgFs_clear hr, ← read_st h hn, List.filter_map]
    rfl
  have hgo : ∀ x ∈ msgFs (clearM m r) (ofKind m.k (rowsIn ver)), (putF x).2 = 0 := fun x hx => by
    rw [msgFs_clear hr] at hx
    obtain ⟨r', -, g⟩ := hg x (List.mem_filter.1 hx).1
    exact g.err
  refine ⟨by rw [← putsF_st, hfl, putsF_all _ _ hgo, hcb], ?_⟩
  have hrow := msgFs_filter (m := m) (of_pair m.k ver) r hr
  have hlen := bytesFs_split (fun x => fNum x == (r.2.1 : Int)) (msgFs m (ofKind m.k (rowsIn ver)))
  rw [hrow, ← msgFs_clear hr, ← hb, ← hcb] at hlen
  rw [Bool.eq_iff_iff, beq_iff_eq]
  constructor
  · intro e
    rw [e] at hlen
    apply rowFs_none
    apply Classical.byContradiction
    intro hne
    have := bytesFs_pos (l := rowFs m r) (fun x hx => by
      rw [← hrow] at hx
      obtain ⟨r', -, g⟩ := hg x (List.mem_filter.1 hx).1
      exact g.err) hne
    omega
  · intro hd
    have e1 : rowFs m r = [] := by unfold rowFs; rw [if_pos hd]
    rw [hb, hcb, msgFs_clear hr]
    congr 1
    symm
    rw [List.filter_eq_self]
    intro x hx
    have : ¬ fNum x = (r.2.1 : Int) := fun e => by
      have hm : x ∈ (msgFs m (ofKind m.k (rowsIn ver))).filter (fun x => fNum x == (r.2.1 : Int)) := List.mem_filter.2 ⟨hx, by simpa using e⟩
      rw [hrow, e1] at hm; cases hm
    simpa using this
end Go.Proofs.Ytcibhkiddeggmaa
namespace Go.Proofs.Ytcibhkiddeggmaa
open Go Go.RowKit Go.Shelf
attribute [local go_sem] Oper.semAt_some

/-- what the switch leaves -/
def WoR (m : Msg) (r : Row) (p : Nat) (w0 : World) (W : World) : Prop := ∃ lv, Blk W p 44 (msgA (clearM m r) lv) ∧ Tx W lv (clearM m r).l ∧ Grew w0 W
set_option maxRecDepth 100000 in
set_option maxHeartbeats 8000000 in
theorem without_walk (m : Msg) (v : Value) (ver : Int) (wh : Nat) (w : World) (hm : MsgR w v m) (hn : ∀ i, i < 6 → m.n i < 18446744073709551616) (hwh : wh < 256) :
    Calls Try.prog 6 #[v, .int .i64 ver, .int .u8 wh] w fun e w' => e = .returned (.bool true) ∧ Grew w w' := by
  obtain ⟨lv, rfl, hl, -⟩ := hm
  obtain ⟨a, c, rfl⟩ := tx_len hl
  obtain ⟨W0, hW0⟩ : ∃ W0, W0 = w.alloc (.cells (msgA m (.slice a m.l.length c)) 44) := ⟨_, rfl⟩
  have g0 : Grew w W0 := by rw [hW0]; exact grew_alloc _ _
  have k0 : Blk W0 w.heap.size 44 (msgA m (.slice a m.l.length c)) := by rw [hW0]; exact Blk.new _ _ _
  have K0 := Lib.hid k0
  have G0 := Lib.hid g0
  have HL := Lib.hid hl
  have KS := Lib.hid (fun W g => small9_any m (.slice a m.l.length c) W (hl.grew (g : Grew w W)))
  have KE := Lib.hid (fun h W g => ebytes_any m a c ver W (small_ok h hn) (hl.grew (g : Grew w W)))
  have KZ := Lib.hid (fun h W g => esize_any m a c ver W (small_ok h hn) (hl.grew (g : Grew w W)))
  have KO := Lib.hid (fun W => of_any m.k ver W)
  have KD := Lib.hid (fun nm t sl W => default_any m a c nm t sl W)
  have HN := Lib.hid hn
  obtain ⟨E, hE⟩ : ∃ E, E = chkM m (ofKind m.k (rowsIn ver)) := ⟨_, rfl⟩
  obtain ⟨B, hB⟩ : ∃ B, B = msgB m (ofKind m.k (rowsIn ver)) := ⟨_, rfl⟩
  rw [← hE, ← hB] at KE
  rw [← hB] at KZ
  have HE := Lib.hid hE
  have HB := Lib.hid hB
  simp only [msgA, fltV] at hW0 KS KE KZ KD ⊢
  clear k0 g0 hl hn hE hB
  go_enter Try.func6, Try.ntmps6
  go_wp2_with fail
  rw [← hW0]
  refine (awakeBytes_any _).mono ?_
  rintro e w1 ⟨rfl, g1⟩
  have K1 := Lib.hid (K0.out.grew g1)
  have G1 := Lib.hid (G0.out.trans g1)
  clear hW0 K0 G0 g1
  obtain ⟨c0, c1, c2, c3, c4, c5, c6, c7, c8, c9⟩ := mcells K1.out
  go_wp2_with fail
  refine (KS.out _ G1.out).mono ?_
  rintro e w2 ⟨rfl, g2⟩
  have K2 := Lib.hid (K1.out.grew g2)
  have G2 := Lib.hid (G1.out.trans g2)
  clear K1 G1 g2 c0 c1 c2 c3 c4 c5 c6 c7 c8 c9
  cases hs : smallB m with
  | false =>
    clear hs
    go_wp2
    go_ret
    exact ⟨rfl, G2.out⟩
  | true =>
  have HSM := Lib.hid (small_ok hs HN.out)
  have KE1 := Lib.hid (KE.out hs)
  have KZ1 := Lib.hid (KZ.out hs)
  clear hs KE KS KZ
  obtain ⟨c0, c1, c2, c3, c4, c5, c6, c7, c8, c9⟩ := mcells K2.out
  go_wp2_with fail
  refine (KE1.out _ G2.out).mono ?_
  rintro e w4 ⟨v4, rfl, ho4, g4⟩
  obtain ⟨a4, c4', rfl⟩ := bs_len (Sl.of_own ho4)
  obtain ⟨wa, hwa⟩ : ∃ wa, wa = w4.alloc (.cells #[.int .i64 (E.1 : Nat), .int .i64 (E.2 : Nat)] 47) := ⟨_, rfl⟩
  have ga : Grew w4 wa := by rw [hwa]; exact grew_alloc _ _
  have ka : Blk wa w4.heap.size 47 #[.int .i64 (E.1 : Nat), .int .i64 (E.2 : Nat)] := by rw [hwa]; exact Blk.new _ _ _
  have HO4 := Lib.hid (own_grew ho4 ga)
  have K4 := Lib.hid ((K2.out.grew g4).grew ga)
  have G4 := Lib.hid ((G2.out.trans g4).trans ga)
  clear c0 c1 c2 c3 c4 c5 c6 c7 c8 c9 ho4 g4 ga K2
  go_upto_region 6 with (fail)
  rw [← hwa]
  clear hwa
  obtain ⟨x0, x1, -, -⟩ := cells_of ka
  by_cases he : E.1 ≠ 0
  · have hne : ((E.1 : Int) != 0) = true := by simp; omega
    have hB0 : B = [] := by rw [HB.out]; unfold msgB; rw [if_pos (by rw [← HE.out]; exact he)]
    subst hB0
    obtain ⟨c0, c1, c2, c3, c4, c5, c6, c7, c8, c9⟩ := mcells K4.out
    clear he
    go_wp2_with fail
    refine (KZ1.out _ G4.out).mono ?_
    rintro e w5 ⟨rfl, g5⟩
    go_wp2
    go_ret
    exact ⟨rfl, G4.out.trans g5⟩
  have hne : ((E.1 : Int) != 0) = false := by simp; omega
  have he0 : E.1 = 0 := by omega
  obtain ⟨c0, c1, c2, c3, c4, c5, c6, c7, c8, c9⟩ := mcells K4.out
  clear he
  go_wp2_with fail
  refine (KO.out _).mono ?_
  rintro e w5 ⟨v5, rfl, r5, g5⟩
  obtain ⟨L, hL⟩ : ∃ L, L = ofKind m.k (rowsIn ver) := ⟨_, rfl⟩
  have hpos : 0 < L.length := by
    cases L with
    | nil => exfalso; rw [HE.out, ← hL] at he0; simp [chkM] at he0
    | cons r L => simp
  rw [← hL] at r5 ⊢
  have HL2 := Lib.hid hL
  obtain ⟨k, hk⟩ : ∃ k, k = wh % L.length := ⟨_, rfl⟩
  have hkl : k < L.length := by rw [hk]; exact Nat.mod_lt _ hpos
  have qm : ((wh : Nat) : Int).tmod (L.length : Int) = (k : Int) := by rw [hk]; rfl
  have hle : L.length ≤ 40 := by rw [hL]; exact ofKind_le _ _
  have hmem : L[k] ∈ L := List.getElem_mem hkl
  obtain ⟨a5, c5', e5, -, -, -, hcc⟩ := (Sl.of_own r5).open
  obtain rfl := e5
  obtain ⟨b, o, rfl, hcl⟩ := hcc (by omega)
  have hf := fun j hj => flat_get (f := specV) (k := 3) (fun _ => rfl) L k hkl j hj
  have y0 := hcl _ _ (hf 0 (by omega))
  have y1 := hcl _ _ (hf 1 (by omega))
  have y2 := hcl _ _ (hf 2 (by omega))
  simp only [Nat.add_zero, ← Nat.add_assoc] at y0 y1 y2
  generalize L[k] = r at y0 y1 y2 hmem
  have HR := Lib.hid (show r ∈ ofKind m.k (rowsIn ver) by rw [← hL]; exact hmem)
  have G5 := Lib.hid (G4.out.trans g5)
  have K5 := Lib.hid (K4.out.grew g5)
  have HO5 := Lib.hid (own_grew HO4.out g5)
  have zi : (k : Int) < (L.length : Int) := by omega
  have z0 : ((L.length : Int) == 0) = false := by rw [beq_eq_false_iff_ne]; omega
  have zp : (0 : Int) < (L.length : Int) := by omega
  clear c0 c1 c2 c3 c4 c5 c6 c7 c8 c9 g5 r5 hcl hcc hf hmem hL hk x0 x1 hne K4 G4 HO4 ka
  obtain ⟨wb, hwb⟩ : ∃ wb, wb = w5.alloc (.cells #[.int .i64 r.2.1, .int .i64 r.2.2.1, .int .i64 r.2.2.2.1] 55) := ⟨_, rfl⟩
  have gb : Grew w5 wb := by rw [hwb]; exact grew_alloc _ _
  have kb : Blk wb w5.heap.size 55 #[.int .i64 r.2.1, .int .i64 r.2.2.1, .int .i64 r.2.2.2.1] := by rw [hwb]; exact Blk.new _ _ _
  have KB := Lib.hid kb
  have K6 := Lib.hid (K5.out.grew gb)
  have G6 := Lib.hid (G5.out.trans gb)
  have HO6 := Lib.hid (own_grew HO5.out gb)
  clear gb kb
  go_upto_region 10 with (fail)
  rw [← hwb]
  clear hwb y0 y1 y2
  obtain ⟨c0, c1, c2, c3, c4, c5, c6, c7, c8, c9⟩ := mcells K6.out
  have KCP := Lib.hid (copy_any m (.slice a m.l.length c) wb (HL.out.grew G6.out) (by have := HSM.out.2.2.1; omega))
  simp only [msgA] at KCP
  go_wp2_with fail
  refine KCP.out.mono ?_
  rintro e w7 ⟨v7, rfl, ho7, g7, -⟩
  obtain ⟨a7, c7', rfl⟩ := tx_len (Sl.of_own ho7)
  obtain ⟨wc0, hwc⟩ : ∃ wc0, wc0 = w7.alloc (.cells (msgA m (.slice a7 m.l.length c7')) 44) := ⟨_, rfl⟩
  have gc : Grew w7 wc0 := by rw [hwc]; exact grew_alloc _ _
  have kc : Blk wc0 w7.heap.size 44 (msgA m (.slice a7 m.l.length c7')) := by rw [hwc]; exact Blk.new _ _ _
  have KC := Lib.hid kc
  have GC := Lib.hid gc
  have K7 := Lib.hid (K6.out.grew g7)
  have KB7 := Lib.hid (KB.out.grew g7)
  have G7 := Lib.hid (G6.out.trans g7)
  have HO7 := Lib.hid (own_grew HO6.out g7)
  have HT := Lib.hid (Sl.of_own ho7)
  have HCT := Lib.hid (clearM_k m r)
  simp only [msgA] at hwc
  clear c0 c1 c2 c3 c4 c5 c6 c7 c8 c9 g7 gc kc ho7 KCP K6 KB G6 HO6
  go_upto_block 0 with fail
  rw [← hwc]
  clear hwc
  go_cut [] from 57 to 75 (fun wx => WoR m r w7.heap.size w7 wx)
  case first =>
    obtain ⟨c0, c1, c2, c3, c4, c5, c6, c7, c8, c9⟩ := mcells KC.out
    have fz := fun j => KC.out.frozen j
    have f0 := fz 0
    have f1 := fz 1
    have f2 := fz 2
    have f3 := fz 3
    have f4 := fz 4
    have f5 := fz 5
    have f6 := fz 6
    have f7 := fz 7
    have f8 := fz 8
    have f9 := fz 9
    have s1 := (KB7.out.grew GC.out).cell 1
    have s2 := (KB7.out.grew GC.out).cell 2
    simp only [List.getElem?_toArray, List.getElem?_cons_zero, List.getElem?_cons_succ] at s1 s2
    obtain ⟨t1, t2, t3, t4⟩ := of_ok HR.out
    simp only [rTyp, rSlot] at t1 t2 t3 t4
    clear fz
    rcases (show r.2.2.1 = 10 ∨ (6 < r.2.2.1 ∧ r.2.2.1 ≠ 10) ∨ r.2.2.1 ≤ 6 by omega) with ht | ht | ht
    · have hc : clearM m r = ⟨m.k, m.n, m.s, []⟩ := by unfold clearM; rw [if_pos ht]
      have HC := Lib.hid hc
      have q1 : ((r.2.2.1 : Int) == 10) = true := by simp; omega
      clear hc ht t3 t4
      go_wp2
      go_meet
      refine ⟨.slice none 0 0, ?_, ?_, grew_set (b := w7.heap.size) (j := 9) GC.out (Nat.le_refl _) _⟩
      · rw [HC.out]; exact KC.out.set 9 _
      · rw [HC.out]; exact Sl.nil _ 1
    · have hc : clearM m r = ⟨m.k, m.n, fun i => if i = r.2.2.2.1 then ⟨#[]⟩ else m.s i, m.l⟩ := by unfold clearM; rw [if_neg ht.2, if_pos ht.1]
      have HC := Lib.hid hc
      have q1 : ((r.2.2.1 : Int) == 10) = false := by simp; omega
      have q2 : decide (6 < r.2.2.1) = true := decide_eq_true ht.1
      have q3 : decide ((r.2.2.1 : Int) > 6) = true := decide_eq_true (by omega)
      have q4 : ¬ r.2.2.1 = 10 := ht.2
      have q5 : (r.2.2.1 == 10) = false := by simpa using ht.2
      have hs := t4 (by omega) (by omega)
      clear hc ht t3 t4
      rcases (show r.2.2.2.1 = 0 ∨ r.2.2.2.1 = 1 by omega) with h0 | h0
      · rw [h0] at s2
        go_wp2
        go_meet
        refine ⟨.slice a7 m.l.length c7', ?_, ?_, grew_set (b := w7.heap.size) (j := 7) GC.out (Nat.le_refl _) _⟩
        · rw [HC.out, h0]; exact KC.out.set 7 _
        · rw [HC.out]; exact HT.out.grew (grew_set (b := w7.heap.size) (j := 7) GC.out (Nat.le_refl _) _)
      · rw [h0] at s2
        go_wp2
        go_meet
        refine ⟨.slice a7 m.l.length c7', ?_, ?_, grew_set (b := w7.heap.size) (j := 8) GC.out (Nat.le_refl _) _⟩
        · rw [HC.out, h0]; exact KC.out.set 8 _
        · rw [HC.out]; exact HT.out.grew (grew_set (b := w7.heap.size) (j := 8) GC.out (Nat.le_refl _) _)
    · have hc : clearM m r = ⟨m.k, fun i => if i = r.2.2.2.1 then 0 else m.n i, m.s, m.l⟩ := by unfold clearM; rw [if_neg (by omega), if_neg (by omega)]
      have HC := Lib.hid hc
      have q1 : ((r.2.2.1 : Int) == 10) = false := by simp; omega
      have q2 : decide (6 < r.2.2.1) = false := decide_eq_false (by omega)
      have q3 : decide ((r.2.2.1 : Int) > 6) = false := decide_eq_false (by omega)
      have q4 : ¬ r.2.2.1 = 10 := by omega
      have q5 : (r.2.2.1 == 10) = false := by simpa using q4
      have hs := t3 ht
      clear hc ht t3 t4
      rcases (show r.2.2.2.1 = 0 ∨ r.2.2.2.1 = 1 ∨ r.2.2.2.1 = 2 ∨ r.2.2.2.1 = 3 ∨ r.2.2.2.1 = 4 ∨ r.2.2.2.1 = 5 by omega) with h0 | h0 | h0 | h0 | h0 | h0
      · rw [h0] at s2
        go_wp2
        go_meet
        refine ⟨.slice a7 m.l.length c7', ?_, ?_, grew_set (b := w7.heap.size) (j := 1) GC.out (Nat.le_refl _) _⟩
        · rw [HC.out, h0]; exact KC.out.set 1 _
        · rw [HC.out]; exact HT.out.grew (grew_set (b := w7.heap.size) (j := 1) GC.out (Nat.le_refl _) _)
      · rw [h0] at s2
        go_wp2
        go_meet
        refine ⟨.slice a7 m.l.length c7', ?_, ?_, grew_set (b := w7.heap.size) (j := 2) GC.out (Nat.le_refl _) _⟩
        · rw [HC.out, h0]; exact KC.out.set 2 _
        · rw [HC.out]; exact HT.out.grew (grew_set (b := w7.heap.size) (j := 2) GC.out (Nat.le_refl _) _)
      · rw [h0] at s2
        go_wp2
        go_meet
        refine ⟨.slice a7 m.l.length c7', ?_, ?_, grew_set (b := w7.heap.size) (j := 3) GC.out (Nat.le_refl _) _⟩
        · rw [HC.out, h0]; exact KC.out.set 3 _
        · rw [HC.out]; exact HT.out.grew (grew_set (b := w7.heap.size) (j := 3) GC.out (Nat.le_refl _) _)
      · rw [h0] at s2
        go_wp2
        go_meet
        refine ⟨.slice a7 m.l.length c7', ?_, ?_, grew_set (b := w7.heap.size) (j := 4) GC.out (Nat.le_refl _) _⟩
        · rw [HC.out, h0]; exact KC.out.set 4 _
        · rw [HC.out]; exact HT.out.grew (grew_set (b := w7.heap.size) (j := 4) GC.out (Nat.le_refl _) _)
      · rw [h0] at s2
        go_wp2
        go_meet
        refine ⟨.slice a7 m.l.length c7', ?_, ?_, grew_set (b := w7.heap.size) (j := 5) GC.out (Nat.le_refl _) _⟩
        · rw [HC.out, h0]; exact KC.out.set 5 _
        · rw [HC.out]; exact HT.out.grew (grew_set (b := w7.heap.size) (j := 5) GC.out (Nat.le_refl _) _)
      · rw [h0] at s2
        go_wp2
        go_meet
        refine ⟨.slice a7 m.l.length c7', ?_, ?_, grew_set (b := w7.heap.size) (j := 6) GC.out (Nat.le_refl _) _⟩
        · rw [HC.out, h0]; exact KC.out.set 6 _
        · rw [HC.out]; exact HT.out.grew (grew_set (b := w7.heap.size) (j := 6) GC.out (Nat.le_refl _) _)
  case rest =>
    obtain ⟨lo, kw, htw, gw⟩ := hcut
    obtain ⟨ao, co, rfl⟩ := tx_len htw
    have hchk : (chkM m (ofKind m.k (rowsIn ver))).1 = 0 := by rw [← HE.out]; exact he0
    obtain ⟨-, h8, hfo, -, -, -⟩ := small_msg hchk HN.out
    obtain ⟨hw1, hw2⟩ := without_law HR.out hchk HN.out
    have hcc := chk_clear HR.out hchk
    have hne9 : okE (clearM m r) := by
      obtain ⟨o1, o2, o3, o4⟩ := HSM.out
      refine ⟨fun i hi => ?_, fun s hs => ?_, ?_, fun i hi => ?_⟩
      · rw [clear_s]; split
        · exact Nat.zero_le _
        · exact o1 i hi
      · rw [clear_l] at hs; split at hs
        · cases hs
        · exact o2 s hs
      · rw [clear_l]; split
        · exact Nat.zero_le _
        · exact o3
      · rw [clear_n]; split
        · omega
        · exact o4 i hi
    have KEO := Lib.hid (fun W g => ebytes_any (clearM m r) ao co ver W hne9 (htw.grew (g : Grew wc W)))
    have hkk := HCT.out
    rw [hkk, hcc] at KEO
    rw [← HB.out] at h8 hfo hw1 hw2
    obtain ⟨B2, hB2⟩ : ∃ B2, B2 = msgB (clearM m r) (ofKind m.k (rowsIn ver)) := ⟨_, rfl⟩
    rw [← hB2] at KEO hw1 hw2
    have KW := Lib.hid kw
    have K9 := Lib.hid (K7.out.grew gw)
    have KB9 := Lib.hid (KB7.out.grew gw)
    have G9 := Lib.hid (G7.out.trans gw)
    have KFS := Lib.hid (fun W g => sfields_any B _ W ((Sl.of_own (own_grew HO7.out gw)).grew (g : Grew wc W)) (by omega))
    have HO9 := Lib.hid (own_grew HO7.out gw)
    obtain ⟨R, hR⟩ : ∃ R, R = fieldsR B := ⟨_, rfl⟩
    rw [← hR] at KFS hfo hw1
    have hR1 : R.2.1 = 0 := by rw [hfo]
    have hR2 : R.2.2 = 0 := by rw [hfo]
    rw [hR1, hR2] at KFS
    have HRL := Lib.hid (show R.1.length ≤ 8192 from by rw [hR]; have := fieldsR_len B; omega)
    have HRO := Lib.hid (show ∀ x ∈ R.1, x.ok ∧ (fB x).length ≤ 8192 from by rw [hR]; exact fieldsR_ok B (by rw [← hR]; exact hR1))
    have HW1 := Lib.hid hw1
    have HW2 := Lib.hid hw2
    simp only [fltV] at KEO
    clear kw gw htw hchk h8 hfo hw1 hw2 hcc hB2 hR1 hR2
    go_wp2_with fail
    refine (KFS.out _ (Below.refl _ _)).mono ?_
    rintro e w10 ⟨v10, rfl, ho10, g10⟩
    obtain ⟨ps, hps, hfv⟩ := ho10
    have hfl := hfv.flr
    obtain ⟨a10, c10, rfl, -, -, -, -⟩ := hfl.1.open
    have hpl : ps.length ≤ 8192 := by have := HRL.out; rw [← hps, List.length_map] at this; exact this
    obtain ⟨wd, hwd⟩ : ∃ wd, wd = w10.alloc (.cells #[.int .i64 0, .int .i64 0] 47) := ⟨_, rfl⟩
    have gd : Grew w10 wd := by rw [hwd]; exact grew_alloc _ _
    have kd : Blk wd w10.heap.size 47 #[.int .i64 0, .int .i64 0] := by rw [hwd]; exact Blk.new _ _ _
    have KWO := Lib.hid (skwo_any ps _ (r.2.1 : Int) wd (hfl.grew gd) (by omega))
    have HFL := Lib.hid (hfl.grew gd)
    have KD1 := Lib.hid kd
    have GD := Lib.hid (g10.trans gd)
    have HPS := Lib.hid hps
    have HPL := Lib.hid hpl
    have d0 := (KB9.out.grew GD.out).cell 0
    simp only [List.getElem?_toArray, List.getElem?_cons_zero] at d0
    clear hfv hfl gd kd g10 hps hpl
    simp only [faultV]
    go_upto_region 17 with (fail)
    try simp only [Int.natCast_zero]
    rw [← hwd]
    clear hwd
    go_wp2_with fail
    refine KWO.out.mono ?_
    rintro e w11 ⟨v11, rfl, ho11, g11⟩
    have hfl2 : FlR w11 v11 (ps.filter fun p => p.1.1 != (r.2.1 : Int)) := ⟨Sl.of_own ho11, fun p hp => ((HFL.out.grew g11).2 p (List.mem_filter.1 hp).1)⟩
    have hmap : (ps.filter fun p => p.1.1 != (r.2.1 : Int)).map (·.1) = R.1.filter fun x => !(fNum x == (r.2.1 : Int)) := by rw [← HPS.out, List.filter_map]; rfl
    have kp := skPut_any _ v11 w11 hfl2 (fun p hp => by
      have hm : p.1 ∈ R.1 := by rw [← HPS.out]; exact List.mem_map_of_mem (List.mem_filter.1 hp).1
      have := HRO.out _ hm
      exact ⟨this.1, by omega⟩) (by have := HPL.out; have h := List.length_filter_le (fun p : FFV => p.1.1 != (r.2.1 : Int)) ps; omega)
    rw [hmap, HW1.out] at kp
    have KP := Lib.hid kp
    obtain ⟨a11, c11, rfl, -, -, -, -⟩ := hfl2.1.open
    have G11 := Lib.hid (GD.out.trans g11)
    have KD2 := Lib.hid (KD1.out.grew g11)
    clear d0 hfl2 hmap kp ho11 g11
    go_wp2_with fail
    refine KP.out.mono ?_
    rintro e w12 ⟨v12, rfl, ho12, g12⟩
    obtain ⟨a12, n12, c12, rfl, hn12⟩ := bs_shape (Sl.of_own ho12)
    obtain ⟨we, hwe⟩ : ∃ we, we = w12.alloc (.cells #[.int .i64 0, .int .i64 0] 47) := ⟨_, rfl⟩
    have ge : Grew w12 we := by rw [hwe]; exact grew_alloc _ _
    have ke : Blk we w12.heap.size 47 #[.int .i64 0, .int .i64 0] := by rw [hwe]; exact Blk.new _ _ _
    have KE2 := Lib.hid ke
    have KD3 := Lib.hid ((KD2.out.grew g12).grew ge)
    have HO12 := Lib.hid (own_grew ho12 ge)
    have G12 := Lib.hid ((G11.out.trans g12).trans ge)
    clear ge ke ho12 g12 KD2 G11
    go_upto_region 18 with (fail)
    try simp only [Int.natCast_zero]
    rw [← hwe]
    clear hwe
    obtain ⟨c0, c1, c2, c3, c4, c5, c6, c7, c8, c9⟩ := mcells (KW.out.grew G12.out)
    have KEO1 := Lib.hid (KEO.out _ G12.out)
    simp only [msgA, hkk] at KEO1 c0
    go_wp2_with fail
    refine KEO1.out.mono ?_
    rintro e w13 ⟨v13, rfl, ho13, g13⟩
    obtain ⟨a13, n13, c13, rfl, hn13⟩ := bs_shape (Sl.of_own ho13)
    obtain ⟨wf, hwf⟩ : ∃ wf, wf = w13.alloc (.cells #[.int .i64 0, .int .i64 0] 47) := ⟨_, rfl⟩
    have gf : Grew w13 wf := by rw [hwf]; exact grew_alloc _ _
    have kf : Blk wf w13.heap.size 47 #[.int .i64 0, .int .i64 0] := by rw [hwf]; exact Blk.new _ _ _
    have G13 := Lib.hid ((G12.out.trans g13).trans gf)
    have KS1 := Lib.hid (fun W (g : Grew wf W) => same_any B2 B2 _ _ W ((Sl.of_own (own_grew (own_grew HO12.out g13) gf)).grew g) ((Sl.of_own (own_grew ho13 gf)).grew g))
    have KS2 := Lib.hid (fun W (g : Grew wf W) => same_any B B2 _ _ W ((Sl.of_own (own_grew HO9.out G13.out)).grew g) ((Sl.of_own (own_grew (own_grew HO12.out g13) gf)).grew g))
    have k1 := (KD3.out.grew g13).grew gf
    have k2 := (KE2.out.grew g13).grew gf
    clear c0 c1 c2 c3 c4 c5 c6 c7 c8 c9 ho13 g13 gf KEO1 qm hle zi z0 zp hkl hpos hwh he0 hkk
    go_upto_region 19 with (fail)
    try simp only [Int.natCast_zero]
    rw [← hwf]
    clear hwf
    obtain ⟨x0, -, -, -⟩ := cells_of k1
    obtain ⟨y0, -, -, -⟩ := cells_of k2
    obtain ⟨z0', -, -, -⟩ := cells_of kf
    go_wp2_with fail
    refine (KS1.out _ (Below.refl _ _)).mono ?_
    rw [beq_self_eq_true]
    rintro e w14 ⟨rfl, d14⟩
    have G14 := Lib.hid (G13.out.trans d14.grew)
    have D14 := Lib.hid d14.grew
    clear x0 y0 z0' k1 k2 kf d14
    obtain ⟨c0, c1, c2, c3, c4, c5, c6, c7, c8, c9⟩ := mcells (KW.out.grew G14.out)
    have s0 := (KB9.out.grew G14.out).cell 0
    have s1 := (KB9.out.grew G14.out).cell 1
    have s2 := (KB9.out.grew G14.out).cell 2
    simp only [List.getElem?_toArray, List.getElem?_cons_zero, List.getElem?_cons_succ] at s0 s1 s2
    have KD5 := Lib.hid (default_any (clearM m r) ao co (r.2.1 : Int) (r.2.2.1 : Int) (r.2.2.2.1 : Int) w14)
    have HCD := clear_def (m := m) (ofKind_sub HR.out).1
    rw [HCD] at KD5
    simp only [msgA] at KD5
    go_wp2_with fail
    refine KD5.out.mono ?_
    rintro e w15 ⟨rfl, g15⟩
    have G15 := Lib.hid (G14.out.trans g15)
    have D15 := Lib.hid (D14.out.trans g15)
    clear c0 c1 c2 c3 c4 c5 c6 c7 c8 c9 s0 s1 s2 g15 HCD
    obtain ⟨c0, c1, c2, c3, c4, c5, c6, c7, c8, c9⟩ := mcells (K9.out.grew G15.out)
    have s0 := (KB9.out.grew G15.out).cell 0
    have s1 := (KB9.out.grew G15.out).cell 1
    have s2 := (KB9.out.grew G15.out).cell 2
    simp only [List.getElem?_toArray, List.getElem?_cons_zero, List.getElem?_cons_succ] at s0 s1 s2
    go_wp2_with fail
    refine (KD.out (r.2.1 : Int) (r.2.2.1 : Int) (r.2.2.2.1 : Int) w15).mono ?_
    rintro e w16 ⟨rfl, g16⟩
    have KS3 := Lib.hid (KS2.out w16 (D15.out.trans g16))
    rw [HW2.out] at KS3
    generalize defB m (r.2.2.1 : Int) (r.2.2.2.1 : Int) = DB at KS3 ⊢
    have G16 := Lib.hid (((G9.out.trans G15.out)).trans g16)
    clear c0 c1 c2 c3 c4 c5 c6 c7 c8 c9 s0 s1 s2 g16
    go_wp2_with fail
    refine KS3.out.mono ?_
    rintro e w17 ⟨rfl, d17⟩
    go_wp2
    go_ret
    exact ⟨ret_bool (by simp), G16.out.trans d17.grew⟩
end Go.Proofs.Ytcibhkiddeggmaa
