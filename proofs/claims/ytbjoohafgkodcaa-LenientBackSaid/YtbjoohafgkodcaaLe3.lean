/- Whatever is read as proto3 reads it may be; a message's bytes are read back. No walk. -/
import Derived.Test.YtbjoohafgkodcaaLe2
import Derived.Test.YtbjoohafgkodcaaSkB
namespace Go.Proofs.Ytbjoohafgkodcaa
open Go Go.RowKit Go.Shelf

theorem set_parts {s : Msg} {t sl : Int} {x : Fld} (h : (setM s t sl x).2 = 0) :
    (t = 10 ∧ s.l.length < 64 ∧ chkV (bS (fB x)) 64 = 0 ∧ (setM s t sl x).1 = ⟨s.k, s.n, s.s, s.l ++ [bS (fB x)]⟩) ∨
    (txtB t = true ∧ 0 ≤ sl ∧ sl < 2 ∧ chkV (bS (fB x)) (mostV t) = 0 ∧ (setM s t sl x).1 = ⟨s.k, s.n, fun i => if i = sl.toNat then bS (fB x) else s.s i, s.l⟩) ∨
    (numB t = true ∧ 0 ≤ sl ∧ sl < 6 ∧ (setM s t sl x).1 = ⟨s.k, fun i => if i = sl.toNat then numV t (fN x) else s.n i, s.s, s.l⟩) := by
  by_cases h10 : t = 10
  · subst h10
    unfold setM at h ⊢
    rw [if_pos rfl] at h ⊢
    by_cases c : 64 ≤ s.l.length
    · rw [if_pos c] at h; simp at h
    rw [if_neg c] at h ⊢
    by_cases d : chkV (bS (fB x)) 64 ≠ 0
    · rw [if_pos d] at h; exact absurd h d
    · rw [if_neg d]; exact .inl ⟨rfl, by omega, by omega, rfl⟩
  by_cases ht : txtB t = true ∧ 0 ≤ sl ∧ sl < 2
  · unfold setM at h ⊢
    rw [if_neg h10, if_pos ht] at h ⊢
    by_cases d : chkV (bS (fB x)) (mostV t) ≠ 0
    · rw [if_pos d] at h; exact absurd h d
    · rw [if_neg d]; exact .inr (.inl ⟨ht.1, ht.2.1, ht.2.2, by omega, rfl⟩)
  by_cases hn : numB t = true ∧ 0 ≤ sl ∧ sl < 6
  · exact .inr (.inr ⟨hn.1, hn.2.1, hn.2.2, by rw [set_num hn.1 hn.2.1 hn.2.2]⟩)
  · unfold setM at h
    rw [if_neg h10, if_neg ht, if_neg hn] at h
    simp at h
/-- what is known of a message that is being read -/
structure Inv (L : List Row) (k : Nat) (s : Msg) : Prop where
  kind : s.k = k
  err : ∀ r ∈ L, errR s r = 0
  num : ∀ i, i < 6 → hasN L i = false → s.n i = 0
  txt : ∀ i, i < 2 → hasS L i = false → s.s i = ⟨#[]⟩
  lst : hasL L = false → s.l = []
  lt : ∀ i, i < 6 → s.n i < 18446744073709551616
theorem numV_lt {t : Int} {n : Nat} (h : n < 18446744073709551616) : numV t n < 18446744073709551616 := by
  unfold numV
  split
  · omega
  split
  · omega
  split
  · exact zagN_lt h
  · exact h
theorem set_inv {k : Nat} {ver : Int} {s : Msg} {r : Row} {x : Fld} (hr : r ∈ ofKind k (rowsIn ver)) (hi : Inv (ofKind k (rowsIn ver)) k s) (hx : fN x < 18446744073709551616) (h5 : fWire x = 5 → fN x < 4294967296)
    (hw : (fWire x : Int) = (wireV r.2.2.1).1) (h : (setM s r.2.2.1 r.2.2.2.1 x).2 = 0) : Inv (ofKind k (rowsIn ver)) k (setM s r.2.2.1 r.2.2.2.1 x).1 := by
  have hra := (ofKind_sub hr).1
  obtain ⟨t1, t2, t3, t4⟩ := rows_ok r hra
  simp only [rTyp, rSlot] at t1 t2 t3 t4
  have hoth : ∀ r' ∈ ofKind k (rowsIn ver), r ≠ r' → errR (setM s r.2.2.1 r.2.2.2.1 x).1 r' = 0 := fun r' hr' hne => by
    obtain ⟨k1, k2⟩ := of_ne hr hr' hne
    obtain ⟨p1, p2, p3⟩ := rows_place r hra r' (ofKind_sub hr').1 k1 k2
    have u2 := (of_ok hr').2.1
    simp only [rTyp] at u2
    show errM _ (r'.2.2.1 : Int) (r'.2.2.2.1 : Int) = 0
    refine (errM_place (b := s) ?_ ?_ ?_).trans (hi.err r' hr')
    · unfold plN
      split
      · rename_i hh
        have := numB_iff.1 hh.1
        rcases set_parts h with ⟨e, -, -, q⟩ | ⟨e, -, -, -, q⟩ | ⟨e, -, -, q⟩
        · rw [q]
        · rw [q]
        · rw [q]
          have := numB_iff.1 e
          simp only
          rw [if_neg (fun c => p3 ⟨by omega, by omega, by omega⟩)]
      · rfl
    · unfold plS
      split
      · rename_i hh
        have := txtB_iff.1 hh.1
        rcases set_parts h with ⟨e, -, -, q⟩ | ⟨e, -, -, -, q⟩ | ⟨e, -, -, q⟩
        · rw [q]
        · rw [q]
          have := txtB_iff.1 e
          simp only
          rw [if_neg (fun c => p2 ⟨by omega, by omega, by omega, by omega, by omega⟩)]
        · rw [q]
      · rfl
    · unfold plL
      split
      · rename_i hh
        rcases set_parts h with ⟨e, -, -, q⟩ | ⟨e, -, -, -, q⟩ | ⟨e, -, -, q⟩
        · exact absurd ⟨by omega, by omega⟩ p1
        · rw [q]
        · rw [q]
      · rfl
  have hself : errR (setM s r.2.2.1 r.2.2.2.1 x).1 r = 0 := by
    show errM _ (r.2.2.1 : Int) (r.2.2.2.1 : Int) = 0
    have hold : errM s (r.2.2.1 : Int) (r.2.2.2.1 : Int) = 0 := hi.err r hr
    rcases set_parts h with ⟨e, l1, c, q⟩ | ⟨e, l1, l2, c, q⟩ | ⟨e, l1, l2, q⟩
    · rw [q]
      rw [e] at hold ⊢
      rw [err_list] at hold ⊢
      rw [if_neg (by omega)] at hold
      simp only [List.length_append, List.length_cons, List.length_nil]
      rw [if_neg (by omega)]
      exact firstE_snoc hold c
    · rw [q, err_txt e l1 l2]
      simp only
      rw [if_pos trivial]; exact c
    · rw [q, err_num e l1 l2]
      simp only
      rw [if_pos trivial, if_neg]
      have hwv := (rwireV_eq (t := (r.2.2.1 : Int)) (by omega) (by omega)).1
      unfold numV
      rintro (⟨c | c, d⟩ | ⟨c, d⟩)
      · rw [if_pos c] at d; omega
      · rw [if_neg (by omega), if_neg (by omega), if_neg (by omega)] at d
        have : fWire x = 5 := by rw [hwv, c] at hw; have h55 : rwireV 5 = 5 := rfl; rw [h55] at hw; omega
        have := h5 this; omega
      · rw [if_neg (by omega), if_pos c] at d; omega
  refine ⟨?_, fun r' hr' => ?_, fun i hi6 hh => ?_, fun i hi2 hh => ?_, fun hh => ?_, fun i hi6 => ?_⟩
  · rcases set_parts h with ⟨-, -, -, q⟩ | ⟨-, -, -, -, q⟩ | ⟨-, -, -, q⟩ <;> (rw [q]; exact hi.kind)
  · by_cases e : r = r'
    · rw [← e]; exact hself
    · exact hoth r' hr' e
  · rcases set_parts h with ⟨-, -, -, q⟩ | ⟨-, -, -, -, q⟩ | ⟨e, l1, l2, q⟩
    · rw [q]; exact hi.num i hi6 hh
    · rw [q]; exact hi.num i hi6 hh
    · rw [q]
      have := numB_iff.1 e
      simp only
      rw [if_neg (fun c => by
        have ht : hasN (ofKind k (rowsIn ver)) i = true := by
          unfold hasN
          refine List.any_eq_true.2 ⟨r, hr, ?_⟩
          simp only [Bool.and_eq_true, decide_eq_true_eq, beq_iff_eq, rTyp, rSlot]
          omega
        rw [ht] at hh; cases hh)]
      exact hi.num i hi6 hh
  · rcases set_parts h with ⟨-, -, -, q⟩ | ⟨e, l1, l2, -, q⟩ | ⟨-, -, -, q⟩
    · rw [q]; exact hi.txt i hi2 hh
    · rw [q]
      have := txtB_iff.1 e
      simp only
      rw [if_neg (fun c => by
        have ht : hasS (ofKind k (rowsIn ver)) i = true := by
          unfold hasS
          refine List.any_eq_true.2 ⟨r, hr, ?_⟩
          simp only [Bool.and_eq_true, decide_eq_true_eq, beq_iff_eq, rTyp, rSlot]
          omega
        rw [ht] at hh; cases hh)]
      exact hi.txt i hi2 hh
    · rw [q]; exact hi.txt i hi2 hh
  · rcases set_parts h with ⟨e, -, -, q⟩ | ⟨-, -, -, -, q⟩ | ⟨-, -, -, q⟩
    · exfalso
      have ht : hasL (ofKind k (rowsIn ver)) = true := by
        unfold hasL
        refine List.any_eq_true.2 ⟨r, hr, ?_⟩
        simp only [decide_eq_true_eq, rTyp]
        omega
      rw [ht] at hh; cases hh
    · rw [q]; exact hi.lst hh
    · rw [q]; exact hi.lst hh
  · rcases set_parts h with ⟨-, -, -, q⟩ | ⟨-, -, -, -, q⟩ | ⟨-, -, -, q⟩
    · rw [q]; exact hi.lt i hi6
    · rw [q]; exact hi.lt i hi6
    · rw [q]
      simp only
      split
      · exact numV_lt hx
      · exact hi.lt i hi6
theorem dec_inv {k : Nat} {ver : Int} : ∀ (l : List Fld) (s : Msg), (∀ x ∈ l, fN x < 18446744073709551616 ∧ (fWire x = 5 → fN x < 4294967296)) → Inv (ofKind k (rowsIn ver)) k s → (decF k ver s l).2.1 = 0 → Inv (ofKind k (rowsIn ver)) k (decF k ver s l).1
  | [], s, _, hi, _ => hi
  | x :: l, s, hx, hi, h => by
    have hx' := fun y hy => hx y (List.mem_cons_of_mem _ hy)
    cases hb : belR k ver x with
    | none => rw [decF_skip hb] at h ⊢; exact dec_inv l s hx' hi h
    | some r =>
      obtain ⟨b1, b2, b3⟩ := belR_mem hb
      by_cases he : (setM s r.2.2.1 r.2.2.2.1 x).2 = 0
      · rw [decF_step hb he] at h ⊢
        have hxx := hx x (List.mem_cons_self ..)
        exact dec_inv l _ hx' (set_inv b1 hi hxx.1 hxx.2 b3 he) h
      · rw [decF_stop hb he] at h; exact absurd h he
theorem def_m0 (k : Nat) (t sl : Int) : defB (m0 k) t sl = true := by
  have e1 : plN (m0 k) t sl = 0 := by unfold plN; split <;> rfl
  have e2 : plS (m0 k) t sl = ⟨#[]⟩ := by unfold plS; split <;> rfl
  have e3 : plL (m0 k) t = [] := by unfold plL; split <;> rfl
  unfold defB
  rw [e1, e2, e3]
  simp [ByteArray.toList_eq]
theorem inv_m0 (k : Nat) (ver : Int) : Inv (ofKind k (rowsIn ver)) k (m0 k) := by
  refine ⟨rfl, fun r hr => ?_, fun _ _ _ => rfl, fun _ _ _ => rfl, fun _ => rfl, fun i _ => by show (0 : Nat) < _; omega⟩
  exact def_err (def_m0 k _ _) (by have := (of_ok hr).2.1; simp only [rTyp] at *; omega)
theorem inv_chk {k : Nat} {ver : Int} {s : Msg} (hne : ofKind k (rowsIn ver) ≠ []) (hi : Inv (ofKind k (rowsIn ver)) k s) : chkM s (ofKind k (rowsIn ver)) = (0, 0) := by
  have hf : (ofKind k (rowsIn ver)).find? (fun r => errR s r != 0) = none := by
    rw [List.find?_eq_none]
    intro r hr
    simp [hi.err r hr]
  rw [chk_end hne hf, if_pos]
  refine sameB_iff.2 ⟨rfl, fun i h6 => ?_, fun i h2 => ?_, ?_⟩
  · rw [cn]
    split
    · rfl
    · rename_i c; exact (hi.num i h6 (by simpa using c)).symm
  · rw [cs]
    split
    · rfl
    · rename_i c; exact (hi.txt i h2 (by simpa using c)).symm
  · rw [cl]
    split
    · rfl
    · rename_i c; exact (hi.lst (by simpa using c)).symm
theorem fields_num {b : List UInt8} (h : (fieldsR b).2.1 = 0) : ∀ x ∈ (fieldsR b).1, fN x < 18446744073709551616 ∧ (fWire x = 5 → fN x < 4294967296) := fun x hx => by
  obtain ⟨h1, h2⟩ := (fieldsF_all b _ 0 0 (Nat.zero_le _) (by omega) h).1 x hx
  refine ⟨h1.2.2.2, fun h5 => ?_⟩
  have e := congrArg fN h2
  unfold bareF at e
  rw [if_neg (by omega), if_pos h5] at e
  simp only [fN] at e ⊢
  omega
/-- whatever is read may be -/
theorem dec_may {k : Nat} {ver : Int} {b : List UInt8} (h : (decM k ver b).2.1 = 0) : Inv (ofKind k (rowsIn ver)) k (decM k ver b).1 ∧ chkM (decM k ver b).1 (ofKind k (rowsIn ver)) = (0, 0) := by
  unfold decM at h ⊢
  by_cases h1 : ofKind k (rowsIn ver) = []
  · rw [if_pos h1] at h; simp at h
  rw [if_neg h1] at h ⊢
  by_cases h2 : 8192 < b.length
  · rw [if_pos h2] at h; simp at h
  rw [if_neg h2] at h ⊢
  by_cases h3 : (fieldsR b).2.1 ≠ 0
  · rw [if_pos h3] at h; exact absurd h h3
  rw [if_neg h3] at h ⊢
  have := dec_inv _ _ (fields_num (by omega)) (inv_m0 k ver) h
  exact ⟨this, inv_chk h1 this⟩
/-- a message that may be is read as it was written -/
theorem dec_own {m : Msg} {ver : Int} (h : (chkM m (ofKind m.k (rowsIn ver))).1 = 0) (hn : ∀ i, i < 6 → m.n i < 18446744073709551616) :
    decM m.k ver (msgB m (ofKind m.k (rowsIn ver))) = (cleanM m (ofKind m.k (rowsIn ver)), 0, 0) ∧ (unkM m.k ver (msgB m (ofKind m.k (rowsIn ver)))).1 = [] ∧ sameB (cleanM m (ofKind m.k (rowsIn ver))) m = true := by
  obtain ⟨-, h8, hok, hl, hk, hg⟩ := small_msg h hn
  obtain ⟨he, hc⟩ := chk_oks h
  have hne : ofKind m.k (rowsIn ver) ≠ [] := fun e => by rw [e] at h; simp [chkM] at h
  have hst := read_st h hn
  have hp : (ofKind m.k (rowsIn ver)).Pairwise (fun r r' => ¬ (r.2.2.1 = 10 ∧ r'.2.2.1 = 10)) :=
    List.Pairwise.imp_of_mem (fun {a b} ha hb hlt => by
      have e1 := ofKind_sub ha
      have e2 := ofKind_sub hb
      exact (rows_place a e1.1 b e2.1 (by rw [e1.2, e2.2]) (by omega)).1) (of_pair m.k ver)
  have hd := dec_rows (m := m) (k := m.k) (ver := ver) hn (ofKind m.k (rowsIn ver)) [] (fun r hr => hr) he (fun _ _ _ => rfl) hp
  rw [List.nil_append, clean_nil] at hd
  have hd2 := decF_st m.k ver (fieldsR (msgB m (ofKind m.k (rowsIn ver)))).1 (m0 m.k)
  have e1 : (fieldsR (msgB m (ofKind m.k (rowsIn ver)))).1.map (fun x => (x.1, x.2.1, x.2.2.1, x.2.2.2.1, 0)) = msgFs m (ofKind m.k (rowsIn ver)) := hst
  rw [e1, hd] at hd2
  have hdm : decM m.k ver (msgB m (ofKind m.k (rowsIn ver))) = decF m.k ver (m0 m.k) (fieldsR (msgB m (ofKind m.k (rowsIn ver)))).1 := by
    unfold decM
    rw [if_neg hne, if_neg (by omega), if_neg (by rw [hok]; simp)]
  have hz : ∀ (l : List Fld) (s : Msg), (decF m.k ver s l).2.1 = 0 → (decF m.k ver s l).2.2 = 0 := by
    intro l
    induction l with
    | nil => intro s _; rfl
    | cons x l ih =>
      intro s hs
      cases hb : belR m.k ver x with
      | none => rw [decF_skip hb] at hs ⊢; exact ih s hs
      | some r =>
        by_cases c : (setM s r.2.2.1 r.2.2.2.1 x).2 = 0
        · rw [decF_step hb c] at hs ⊢; exact ih _ hs
        · rw [decF_stop hb c] at hs; exact absurd hs c
  have hall : decM m.k ver (msgB m (ofKind m.k (rowsIn ver))) = (cleanM m (ofKind m.k (rowsIn ver)), 0, 0) := by
    rw [hdm]
    exact Prod.ext hd2.1.symm (Prod.ext hd2.2.symm (hz _ _ hd2.2.symm))
  refine ⟨hall, ?_, hc⟩
  unfold unkM
  rw [if_neg (by rw [hall]; simp)]
  show List.filter _ _ = []
  rw [List.filter_eq_nil_iff]
  intro x hx
  obtain ⟨j, hj, rfl⟩ := List.getElem_of_mem hx
  have hj2 : j < (msgFs m (ofKind m.k (rowsIn ver))).length := by rw [← hl]; exact hj
  have e := likeF_iff.1 (hk j hj hj2)
  obtain ⟨r, hr, g⟩ := hg _ (List.getElem_mem hj2)
  have hb := belR_good hr (x := (fieldsR (msgB m (ofKind m.k (rowsIn ver)))).1[j]) (e.1.trans g.num) (by
    have := g.wire
    show (((fieldsR (msgB m (ofKind m.k (rowsIn ver)))).1[j].2.1 : Nat) : Int) = _
    rw [e.2.1]; exact this)
  rw [hb]; simp
end Go.Proofs.Ytbjoohafgkodcaa
