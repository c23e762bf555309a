/- WholeWithout: the walk. ; A message of which one field has nothing: its bytes are those of all other fields. No walk. -/
import Derived.Test.YtbjoohafgkodcaaGreatEnq
import Derived.Deep.CutRange
import Derived.Deep.CutBlock
import Derived.Test.YtbjoohafgkodcaaGreatEnb
import Derived.Test.YtbjoohafgkodcaaGreatSkF
import Derived.Test.YtbjoohafgkodcaaGreatSkB
namespace Go.Proofs.YtbjoohafgkodcaaGreat
open Go Go.RowKit Go.Shelf

/-- a message without one of its fields -/
def clearM (m : Msg) (r : Row) : Msg :=
  if r.2.2.1 = 10 then ⟨m.k, m.n, m.s, []⟩
  else if 6 < r.2.2.1 then ⟨m.k, m.n, fun i => if i = r.2.2.2.1 then ⟨#[]⟩ else m.s i, m.l⟩
  else ⟨m.k, fun i => if i = r.2.2.2.1 then 0 else m.n i, m.s, m.l⟩
theorem clearM_k (m : Msg) (r : Row) : (clearM m r).k = m.k := by unfold clearM; split; rfl; split <;> rfl
theorem rows_place : ∀ r ∈ rowsAll, ∀ r' ∈ rowsAll, r.1 = r'.1 → r.2.1 ≠ r'.2.1 → ¬ (r.2.2.1 = 10 ∧ r'.2.2.1 = 10) ∧ ¬ (6 < r.2.2.1 ∧ r.2.2.1 < 10 ∧ 6 < r'.2.2.1 ∧ r'.2.2.1 < 10 ∧ r.2.2.2.1 = r'.2.2.2.1) ∧ ¬ (r.2.2.1 ≤ 6 ∧ r'.2.2.1 ≤ 6 ∧ r.2.2.2.1 = r'.2.2.2.1) := by decide
theorem clear_n {m : Msg} {r : Row} {i : Nat} : (clearM m r).n i = if r.2.2.1 ≤ 6 ∧ i = r.2.2.2.1 then 0 else m.n i := by
  unfold clearM
  by_cases h10 : r.2.2.1 = 10
  · rw [if_pos h10, if_neg (by omega)]
  rw [if_neg h10]
  by_cases h6 : 6 < r.2.2.1
  · rw [if_pos h6, if_neg (by omega)]
  · rw [if_neg h6]
    by_cases e : i = r.2.2.2.1
    · rw [if_pos ⟨by omega, e⟩]; simp only; rw [if_pos e]
    · rw [if_neg (fun h => e h.2)]; simp only; rw [if_neg e]
theorem clear_s {m : Msg} {r : Row} {i : Nat} : (clearM m r).s i = if (6 < r.2.2.1 ∧ r.2.2.1 ≠ 10) ∧ i = r.2.2.2.1 then ⟨#[]⟩ else m.s i := by
  unfold clearM
  by_cases h10 : r.2.2.1 = 10
  · rw [if_pos h10, if_neg (by omega)]
  rw [if_neg h10]
  by_cases h6 : 6 < r.2.2.1
  · rw [if_pos h6]
    by_cases e : i = r.2.2.2.1
    · rw [if_pos ⟨⟨h6, h10⟩, e⟩]; simp only; rw [if_pos e]
    · rw [if_neg (fun h => e h.2)]; simp only; rw [if_neg e]
  · rw [if_neg h6, if_neg (by omega)]
theorem clear_l {m : Msg} {r : Row} : (clearM m r).l = if r.2.2.1 = 10 then [] else m.l := by
  unfold clearM
  split
  · rfl
  split <;> rfl
/-- other fields stay -/
theorem clear_other {m : Msg} {r r' : Row} (hr : r ∈ rowsAll) (hr' : r' ∈ rowsAll) (hk : r.1 = r'.1) (hne : r.2.1 ≠ r'.2.1) :
    plN (clearM m r) r'.2.2.1 r'.2.2.2.1 = plN m r'.2.2.1 r'.2.2.2.1 ∧ plS (clearM m r) r'.2.2.1 r'.2.2.2.1 = plS m r'.2.2.1 r'.2.2.2.1 ∧ plL (clearM m r) r'.2.2.1 = plL m r'.2.2.1 := by
  obtain ⟨p1, p2, p3⟩ := rows_place r hr r' hr' hk hne
  refine ⟨?_, ?_, ?_⟩
  · unfold plN
    split
    · rename_i h
      have := numB_iff.1 h.1
      rw [clear_n, if_neg (fun e => p3 ⟨e.1, by omega, by have := e.2; omega⟩)]
    · rfl
  · unfold plS
    split
    · rename_i h
      have := txtB_iff.1 h.1
      have t1 := (rows_ok r hr).2.1
      simp only [rTyp] at t1
      rw [clear_s, if_neg (fun e => p2 ⟨e.1.1, by omega, by omega, by omega, by have := e.2; omega⟩)]
    · rfl
  · unfold plL
    split
    · rename_i h
      rw [clear_l, if_neg (fun e => p1 ⟨e, by omega⟩)]
    · rfl
theorem clear_def {m : Msg} {r : Row} (hr : r ∈ rowsAll) : defB (clearM m r) r.2.2.1 r.2.2.2.1 = true := by
  obtain ⟨t1, t2, t3, t4⟩ := rows_ok r hr
  simp only [rTyp, rSlot] at t1 t2 t3 t4
  by_cases h10 : r.2.2.1 = 10
  · have e : (r.2.2.1 : Int) = 10 := by omega
    rw [e, def_list, clear_l, if_pos h10]; rfl
  by_cases h6 : r.2.2.1 ≤ 6
  · rw [def_num (numB_iff.2 (by omega)) (by omega) (by have := t3 h6; omega), clear_n, if_pos ⟨h6, by omega⟩]; rfl
  · rw [def_txt (txtB_iff.2 (by omega)) (by omega) (by have := t4 (by omega) (by omega); omega), clear_s, if_pos ⟨⟨by omega, h10⟩, by omega⟩]
    simp [ByteArray.toList_eq]
theorem rowFs_place {a b : Msg} {r : Row} (e1 : plN a r.2.2.1 r.2.2.2.1 = plN b r.2.2.1 r.2.2.2.1) (e2 : plS a r.2.2.1 r.2.2.2.1 = plS b r.2.2.1 r.2.2.2.1) (e3 : plL a r.2.2.1 = plL b r.2.2.1) : rowFs a r = rowFs b r := by
  unfold rowFs defB
  rw [e1, e2, e3]
  split
  · rfl
  split
  · rename_i h
    unfold plL at e3
    rw [if_pos h, if_pos h] at e3
    rw [e3]
  · rfl
theorem errM_place {a b : Msg} {t sl : Int} (e1 : plN a t sl = plN b t sl) (e2 : plS a t sl = plS b t sl) (e3 : plL a t = plL b t) : errM a t sl = errM b t sl := by
  unfold errM; rw [e1, e2, e3]
theorem of_ne {k : Nat} {ver : Int} {r r' : Row} (hr : r ∈ ofKind k (rowsIn ver)) (hr' : r' ∈ ofKind k (rowsIn ver)) (h : r ≠ r') : r.1 = r'.1 ∧ r.2.1 ≠ r'.2.1 := by
  have e1 := ofKind_sub hr
  have e2 := ofKind_sub hr'
  exact ⟨by rw [e1.2, e2.2], fun e => h (rows_uniq r e1.1 r' e2.1 (by rw [e1.2, e2.2]) e)⟩
/-- the fields of a message without one are all others -/
theorem msgFs_clear {m : Msg} {ver : Int} {r : Row} (hr : r ∈ ofKind m.k (rowsIn ver)) : msgFs (clearM m r) (ofKind m.k (rowsIn ver)) = (msgFs m (ofKind m.k (rowsIn ver))).filter (fun x => !(fNum x == (r.2.1 : Int))) := by
  have h : ∀ L : List Row, (∀ x ∈ L, x ∈ ofKind m.k (rowsIn ver)) → msgFs (clearM m r) L = (msgFs m L).filter (fun x => !(fNum x == (r.2.1 : Int))) := by
    intro L
    induction L with
    | nil => intro _; rfl
    | cons a L ih =>
      intro hL
      show rowFs _ a ++ msgFs _ L = (rowFs m a ++ msgFs m L).filter _
      rw [List.filter_append, ← ih fun x hx => hL x (List.mem_cons_of_mem _ hx)]
      congr 1
      have ha := hL a (List.mem_cons_self ..)
      by_cases e : r = a
      · subst e
        have e1 : rowFs (clearM m r) r = [] := by unfold rowFs; rw [if_pos (clear_def (ofKind_sub hr).1)]
        rw [e1]
        symm
        rw [List.filter_eq_nil_iff]
        intro x hx
        rw [rowFs_num hx]; simp
      · obtain ⟨k1, k2⟩ := of_ne hr ha e
        obtain ⟨e1, e2, e3⟩ := clear_other (m := m) (ofKind_sub hr).1 (ofKind_sub ha).1 k1 k2
        rw [rowFs_place e1 e2 e3]
        symm
        rw [List.filter_eq_self]
        intro x hx
        rw [rowFs_num hx]
        simp
        omega
  exact h _ fun x hx => hx
/-- it may be -/
theorem chk_clear {m : Msg} {ver : Int} {r : Row} (hr : r ∈ ofKind m.k (rowsIn ver)) (h : (chkM m (ofKind m.k (rowsIn ver))).1 = 0) : chkM (clearM m r) (ofKind m.k (rowsIn ver)) = (0, 0) := by
  obtain ⟨he, hc⟩ := chk_oks h
  obtain ⟨cn, cs, cl⟩ := clean_at hc
  have hne : ofKind m.k (rowsIn ver) ≠ [] := fun e => by rw [e] at hr; cases hr
  have hf : (ofKind m.k (rowsIn ver)).find? (fun r' => errR (clearM m r) r' != 0) = none := by
    rw [List.find?_eq_none]
    intro r' hr'
    have hz : errR (clearM m r) r' = 0 := by
      by_cases e : r = r'
      · subst e
        exact def_err (clear_def (ofKind_sub hr).1) (by have := (of_ok hr).2.1; simp only [rTyp] at *; omega)
      · obtain ⟨k1, k2⟩ := of_ne hr hr' e
        obtain ⟨e1, e2, e3⟩ := clear_other (m := m) (ofKind_sub hr).1 (ofKind_sub hr').1 k1 k2
        exact (errM_place e1 e2 e3).trans (he r' hr')
    simp [hz]
  rw [chk_end hne hf, if_pos]
  refine sameB_iff.2 ⟨rfl, fun i hi => ?_, fun i hi => ?_, ?_⟩
  · show (if hasN _ i = true then _ else 0) = _
    by_cases hh : hasN (ofKind m.k (rowsIn ver)) i = true
    · rw [if_pos hh]
    · rw [if_neg hh, clear_n]
      split
      · rfl
      · exact (cn i hi (by simpa using hh)).symm
  · show (if hasS _ i = true then _ else (⟨#[]⟩ : ByteArray)) = _
    by_cases hh : hasS (ofKind m.k (rowsIn ver)) i = true
    · rw [if_pos hh]
    · rw [if_neg hh, clear_s]
      split
      · rfl
      · exact (cs i hi (by simpa using hh)).symm
  · show (if hasL _ = true then _ else []) = _
    by_cases hh : hasL (ofKind m.k (rowsIn ver)) = true
    · rw [if_pos hh]
    · rw [if_neg hh, clear_l]
      split
      · rfl
      · exact (cl (by simpa using hh)).symm
/-- a field, wherever it stood -/
def stF (x : Fld) : Fld := (x.1, x.2.1, x.2.2.1, x.2.2.2.1, 0)
theorem putF_st (x : Fld) : putF (stF x) = putF x := rfl
theorem putsF_st : ∀ (l : List Fld) (i : Nat), putsF i (l.map stF) = putsF i l
  | [], _ => rfl
  | x :: l, i => by rw [List.map_cons, putsF_cons, putsF_cons, putF_st, putsF_st l (i + 1)]
theorem read_st {m : Msg} {ver : Int} (h : (chkM m (ofKind m.k (rowsIn ver))).1 = 0) (hn : ∀ i, i < 6 → m.n i < 18446744073709551616) :
    (fieldsR (msgB m (ofKind m.k (rowsIn ver)))).1.map stF = msgFs m (ofKind m.k (rowsIn ver)) := by
  obtain ⟨-, -, -, hl, hk, hg⟩ := small_msg h hn
  refine List.ext_getElem (by rw [List.length_map, hl]) fun j h1 h2 => ?_
  rw [List.getElem_map]
  rw [List.length_map] at h1
  have e := likeF_iff.1 (hk j h1 h2)
  obtain ⟨r, -, g⟩ := hg _ (List.getElem_mem h2)
  have hp := g.pos
  exact Prod.ext e.1 (Prod.ext e.2.1 (Prod.ext e.2.2.1 (Prod.ext e.2.2.2 hp.symm)))
theorem bytesFs_pos {l : List Fld} (h : ∀ x ∈ l, (putF x).2 = 0) (hl : l ≠ []) : 1 ≤ (bytesFs l).length := by
  cases l with
  | nil => exact absurd rfl hl
  | cons x l =>
    have := putF_pos (h x (List.mem_cons_self ..))
    show 1 ≤ ((putF x).1 ++ bytesFs l).length
    rw [List.length_append]; omega
theorem bytesFs_split (p : Fld → Bool) (l : List Fld) : (bytesFs l).length = (bytesFs (l.filter p)).length + (bytesFs (l.filter fun x => !p x)).length := by
  induction l with
  | nil => rfl
  | cons x l ih =>
    show ((putF x).1 ++ bytesFs l).length = _
    rw [List.length_append, ih]
    cases h : p x with
    | true =>
      rw [List.filter_cons_of_pos h, List.filter_cons_of_neg (by simp [h])]
      show _ = ((putF x).1 ++ bytesFs _).length + _
      rw [List.length_append]; omega
    | false =>
      rw [List.filter_cons_of_neg (by simp [h]), List.filter_cons_of_pos (by simp [h])]
      show _ = _ + ((putF x).1 ++ bytesFs _).length
      rw [List.length_append]; omega
/-- what skip puts of all other fields are the message's bytes without that field; they are the same just if it had nothing -/
theorem without_law {m : Msg} {ver : Int} {r : Row} (hr : r ∈ ofKind m.k (rowsIn ver)) (h : (chkM m (ofKind m.k (rowsIn ver))).1 = 0) (hn : ∀ i, i < 6 → m.n i < 18446744073709551616) :
    putsF 0 ((fieldsR (msgB m (ofKind m.k (rowsIn ver)))).1.filter fun x => !(fNum x == (r.2.1 : Int))) = (msgB (clearM m r) (ofKind m.k (rowsIn ver)), 0, 0) ∧
    (msgB m (ofKind m.k (rowsIn ver)) == msgB (clearM m r) (ofKind m.k (rowsIn ver))) = defB m r.2.2.1 r.2.2.2.1 := by
  obtain ⟨hb, -, -, -, -, hg⟩ := small_msg h hn
  have hc := chk_clear hr h
  have hcb : msgB (clearM m r) (ofKind m.k (rowsIn ver)) = bytesFs (msgFs (clearM m r) (ofKind m.k (rowsIn ver))) := by unfold msgB; rw [if_neg (by rw [hc]; simp), msgB_fs]
  have hfl : ((fieldsR (msgB m (ofKind m.k (rowsIn ver)))).1.filter fun x => !(fNum x == (r.2.1 : Int))).map stF = msgFs (clearM m r) (ofKind m.k (rowsIn ver)) := by
    rw [msgFs_clear hr, ← read_st h hn, List.filter_map]
    rfl
  have hgo : ∀ x ∈ msgFs (clearM m r) (ofKind m.k (rowsIn ver)), (putF x).2 = 0 := fun x hx => by
    rw [msgFs_clear hr] at hx
    obtain ⟨r', -, g⟩ := hg x (List.mem_filter.1 hx).1
    exact g.err
  refine ⟨by rw [← putsF_st, hfl, putsF_all _ _ hgo, hcb], ?_⟩
  have hrow := msgFs_filter (m := m) (of_pair m.k ver) r hr
  have hlen := bytesFs_split (fun x => fNum x == (r.2.1 : Int)) (msgFs m (ofKind m.k (rowsIn ver)))
  rw [hrow, ← msgFs_clear hr, ← hb, ← hcb] at hlen
  rw [Bool.eq_iff_iff, beq_iff_eq]
  constructor
  · intro e
    rw [e] at hlen
    apply rowFs_none
    apply Classical.byContradiction
    intro hne
    have := bytesFs_pos (l := rowFs m r) (fun x hx => by
      rw [← hrow] at hx
      obtain ⟨r', -, g⟩ := hg x (List.mem_filter.1 hx).1
      exact g.err) hne
    omega
  · intro hd
    have e1 : rowFs m r = [] := by unfold rowFs; rw [if_pos hd]
    rw [hb, hcb, msgFs_clear hr]
    congr 1
    symm
    rw [List.filter_eq_self]
    intro x hx
    have : ¬ fNum x = (r.2.1 : Int) := fun e => by
      have hm : x ∈ (msgFs m (ofKind m.k (rowsIn ver))).filter (fun x => fNum x == (r.2.1 : Int)) := List.mem_filter.2 ⟨hx, by simpa using e⟩
      rw [hrow, e1] at hm; cases hm
    simpa using this
end Go.Proofs.YtbjoohafgkodcaaGreat
namespace Go.Proofs.YtbjoohafgkodcaaGreat
open Go Go.RowKit Go.Shelf
attribute [local go_sem] Oper.semAt_some

end Go.Proofs.YtbjoohafgkodcaaGreat
