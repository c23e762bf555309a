/- What is read strictly, in another version, fixed, or in another order of fields, in plain words. No walk. ; Bytes behind others: the last number and text counts, lists go on; fields put are read back as fields. No walk. ; Whatever is read as proto3 reads it may be; a message's bytes are read back. No walk. ; A message that may be is read as it was written. No walk. -/
import Derived.Test.YtbjoohafgkodcaaGreatLe1
import Derived.Test.YtbjoohafgkodcaaGreatWo2
import Derived.Test.YtbjoohafgkodcaaGreatSkB
namespace Go.Proofs.YtbjoohafgkodcaaGreat
open Go Go.RowKit Go.Shelf

theorem msg_ext {a b : Msg} (h1 : a.k = b.k) (h2 : ∀ i, a.n i = b.n i) (h3 : ∀ i, a.s i = b.s i) (h4 : a.l = b.l) : a = b := by
  obtain ⟨k, n, s, l⟩ := a
  obtain ⟨k', n', s', l'⟩ := b
  simp only at h1 h2 h3 h4
  subst h1 h4
  rw [show n = n' from funext h2, show s = s' from funext h3]
theorem clean_nil (m : Msg) : cleanM m [] = m0 m.k := msg_ext rfl (fun _ => rfl) (fun _ => rfl) rfl
theorem cn (m : Msg) (L : List Row) (i : Nat) : (cleanM m L).n i = if hasN L i = true then m.n i else 0 := rfl
theorem cs (m : Msg) (L : List Row) (i : Nat) : (cleanM m L).s i = if hasS L i = true then m.s i else ⟨#[]⟩ := rfl
theorem cl (m : Msg) (L : List Row) : (cleanM m L).l = if hasL L = true then m.l else [] := rfl
/-- a row that has nothing adds nothing -/
theorem clean_skip {m : Msg} {P : List Row} {r : Row} (hr : r ∈ rowsAll) (hd : defB m r.2.2.1 r.2.2.2.1 = true) : cleanM m (P ++ [r]) = cleanM m P := by
  obtain ⟨t1, t2, t3, t4⟩ := rows_ok r hr
  obtain ⟨e1, e2, e3⟩ := def_zero hd
  refine msg_ext rfl (fun i => ?_) (fun i => ?_) ?_
  · rw [cn, cn, hasN_snoc]
    by_cases c : hasN P i = true
    · rw [c]; rfl
    · rw [if_neg c]
      have c' : hasN P i = false := by simpa using c
      rw [c', Bool.false_or]
      split
      · rename_i h
        simp only [Bool.and_eq_true, decide_eq_true_eq, beq_iff_eq] at h
        rw [(pl_num (m := m) (numB_iff.2 (by have := h.1; simp only [rTyp] at *; omega)) (by omega) (by have := t3 h.1; simp only [rSlot] at this; omega)).1] at e1
        rw [← h.2]; simpa using e1
      · rfl
  · rw [cs, cs, hasS_snoc]
    by_cases c : hasS P i = true
    · rw [c]; rfl
    · rw [if_neg c]
      have c' : hasS P i = false := by simpa using c
      rw [c', Bool.false_or]
      split
      · rename_i h
        simp only [Bool.and_eq_true, decide_eq_true_eq, beq_iff_eq] at h
        rw [(pl_txt (m := m) (txtB_iff.2 (by have := h.1; simp only [rTyp] at *; omega)) (by omega) (by have := t4 h.1.1 h.1.2; simp only [rSlot] at this; omega)).2.1] at e2
        rw [← h.2]; simpa using e2
      · rfl
  · rw [cl, cl, hasL_snoc]
    by_cases c : hasL P = true
    · rw [c]; rfl
    · rw [if_neg c]
      have c' : hasL P = false := by simpa using c
      rw [c', Bool.false_or]
      split
      · rename_i h
        simp only [decide_eq_true_eq] at h
        unfold plL at e3
        rw [if_pos (by simp only [rTyp] at *; omega)] at e3
        exact e3
      · rfl
theorem set_list {m : Msg} {sl : Int} {x : Fld} (h1 : m.l.length < 64) (h2 : chkV (bS (fB x)) 64 = 0) : setM m 10 sl x = (⟨m.k, m.n, m.s, m.l ++ [bS (fB x)]⟩, 0) := by
  unfold setM; rw [if_pos rfl, if_neg (by omega), if_neg (by omega)]
theorem set_txt {m : Msg} {t sl : Int} {x : Fld} (ht : txtB t = true) (h0 : 0 ≤ sl) (h2 : sl < 2) (hc : chkV (bS (fB x)) (mostV t) = 0) : setM m t sl x = (⟨m.k, m.n, fun i => if i = sl.toNat then bS (fB x) else m.s i, m.l⟩, 0) := by
  have := txtB_iff.1 ht
  unfold setM; rw [if_neg (by omega), if_pos ⟨ht, h0, h2⟩, if_neg (by omega)]
theorem set_num {m : Msg} {t sl : Int} {x : Fld} (ht : numB t = true) (h0 : 0 ≤ sl) (h6 : sl < 6) : setM m t sl x = (⟨m.k, fun i => if i = sl.toNat then numV t (fN x) else m.n i, m.s, m.l⟩, 0) := by
  have := numB_iff.1 ht
  unfold setM; rw [if_neg (by omega), if_neg (fun h => by have := txtB_iff.1 h.1; omega), if_pos ⟨ht, h0, h6⟩]
/-- a list's fields, one by one -/
theorem dec_list {k : Nat} {ver : Int} {r : Row} (hr : r ∈ ofKind k (rowsIn ver)) (h10 : (r.2.2.1 : Int) = 10) : ∀ (l : List ByteArray) (s : Msg), (∀ x ∈ l, chkV x 64 = 0) → s.l.length + l.length ≤ 64 →
    decF k ver s (l.map fun x => (((r.2.1 : Nat) : Int), 2, 0, sB x, 0)) = (⟨s.k, s.n, s.s, s.l ++ l⟩, 0, 0)
  | [], s, _, _ => by
    show (s, 0, 0) = _
    rw [List.append_nil]
  | x :: l, s, h, hl => by
    rw [List.length_cons] at hl
    rw [List.map_cons]
    have hb : belR k ver ((((r.2.1 : Nat) : Int), 2, 0, sB x, 0) : Fld) = some r := belR_good hr rfl (by rw [h10]; rfl)
    have hst := set_list (m := s) (sl := (r.2.2.2.1 : Int)) (x := (((r.2.1 : Nat) : Int), 2, 0, sB x, 0)) (by omega) (by show chkV (bS (sB x)) 64 = 0; rw [bS_sB]; exact h x (List.mem_cons_self ..))
    rw [← h10] at hst
    rw [decF_step hb (by rw [hst]), hst]
    rw [dec_list hr h10 l _ (fun y hy => h y (List.mem_cons_of_mem _ hy)) (by simp only [List.length_append, List.length_cons, List.length_nil]; omega)]
    show ((⟨s.k, s.n, s.s, (s.l ++ [bS (sB x)]) ++ l⟩ : Msg), 0, 0) = _
    rw [bS_sB, List.append_assoc]
    rfl
/-- a row's fields -/
theorem dec_row {m : Msg} {k : Nat} {ver : Int} {P : List Row} {r : Row} (hr : r ∈ ofKind k (rowsIn ver)) (he : errR m r = 0) (hn : ∀ i, i < 6 → m.n i < 18446744073709551616) (hP : r.2.2.1 = 10 → hasL P = false) :
    decF k ver (cleanM m P) (rowFs m r) = (cleanM m (P ++ [r]), 0, 0) := by
  have hra := (ofKind_sub hr).1
  obtain ⟨t1, t2, t3, t4⟩ := rows_ok r hra
  simp only [rTyp, rSlot] at t1 t2 t3 t4
  obtain ⟨w1, w2, -, -⟩ := rwireV_eq (t := (r.2.2.1 : Int)) (by omega) (by omega)
  have he' : errM m (r.2.2.1 : Int) (r.2.2.2.1 : Int) = 0 := he
  by_cases hd : defB m r.2.2.1 r.2.2.2.1 = true
  · rw [clean_skip hra hd]
    unfold rowFs; rw [if_pos hd]; rfl
  unfold rowFs
  rw [if_neg hd]
  by_cases h10 : (r.2.2.1 : Int) = 10
  · rw [if_pos h10]
    have he2 : errM m 10 (r.2.2.2.1 : Int) = 0 := by rw [← h10]; exact he'
    rw [err_list] at he2
    have hlen : m.l.length ≤ 64 := by
      by_cases c : 64 < m.l.length
      · rw [if_pos c] at he2; simp at he2
      · omega
    rw [if_neg (by omega)] at he2
    have hp := hP (by omega)
    have hcl : (cleanM m P).l = [] := by rw [cl, hp]; rfl
    rw [dec_list hr h10 m.l _ (firstE_sz he2) (by rw [hcl]; simpa using hlen), hcl, List.nil_append]
    refine Prod.ext (msg_ext rfl (fun i => ?_) (fun i => ?_) ?_) rfl
    · show (cleanM m P).n i = _
      rw [cn, cn, hasN_snoc]
      have : decide (rTyp r ≤ 6) = false := decide_eq_false (by simp only [rTyp]; omega)
      rw [this, Bool.false_and, Bool.or_false]
    · show (cleanM m P).s i = _
      rw [cs, cs, hasS_snoc]
      have : decide (rTyp r ≤ 9) = false := decide_eq_false (by simp only [rTyp]; omega)
      rw [this, Bool.and_false, Bool.false_and, Bool.or_false]
    · show m.l = _
      rw [cl, hasL_snoc]
      have : decide (10 ≤ rTyp r) = true := decide_eq_true (by simp only [rTyp]; omega)
      rw [this, Bool.or_true]; rfl
  rw [if_neg h10]
  have hb : ∀ Z b, belR k ver ((((r.2.1 : Nat) : Int), (rwireV (r.2.2.1 : Int)).toNat, Z, b, 0) : Fld) = some r := fun Z b => belR_good hr rfl (by rw [w1]; exact w2.symm)
  by_cases ht : txtB (r.2.2.1 : Int) = true
  · have hf := txtB_iff.1 ht
    have hsl : (r.2.2.2.1 : Int) < 2 := by have := t4 (by omega) (by omega); omega
    obtain ⟨-, e2, -⟩ := pl_txt (m := m) ht (Int.natCast_nonneg _) hsl
    rw [Int.toNat_natCast] at e2
    rw [e2]
    rw [err_txt ht (Int.natCast_nonneg _) hsl, Int.toNat_natCast] at he'
    have hst := set_txt (m := cleanM m P) (x := ((((r.2.1 : Nat) : Int), (rwireV (r.2.2.1 : Int)).toNat, (if (r.2.2.1 : Int) = 3 then zigN (wrap64 (plN m r.2.2.1 r.2.2.2.1)) else plN m r.2.2.1 r.2.2.2.1), sB (m.s r.2.2.2.1), 0) : Fld)) ht (Int.natCast_nonneg _) hsl (by show chkV (bS (sB _)) _ = 0; rw [bS_sB]; exact he')
    rw [decF_step (hb _ _) (by rw [hst]), hst]
    refine Prod.ext (msg_ext rfl (fun i => ?_) (fun i => ?_) ?_) rfl
    · show (cleanM m P).n i = _
      rw [cn, cn, hasN_snoc]
      have : decide (rTyp r ≤ 6) = false := decide_eq_false (by simp only [rTyp]; omega)
      rw [this, Bool.false_and, Bool.or_false]
    · show (if i = (r.2.2.2.1 : Int).toNat then bS (sB (m.s r.2.2.2.1)) else (cleanM m P).s i) = _
      rw [Int.toNat_natCast, bS_sB, cs, cs, hasS_snoc]
      have e7 : decide (7 ≤ rTyp r) = true := decide_eq_true (by simp only [rTyp]; omega)
      have e9 : decide (rTyp r ≤ 9) = true := decide_eq_true (by simp only [rTyp]; omega)
      rw [e7, e9, Bool.true_and, Bool.true_and]
      by_cases c : i = r.2.2.2.1
      · subst c
        rw [if_pos rfl, if_pos (by simp [rSlot])]
      · rw [if_neg c]
        have : (rSlot r == i) = false := by simp only [rSlot]; rw [beq_eq_false_iff_ne]; omega
        rw [this, Bool.or_false]
    · show (cleanM m P).l = _
      rw [cl, cl, hasL_snoc]
      have : decide (10 ≤ rTyp r) = false := decide_eq_false (by simp only [rTyp]; omega)
      rw [this, Bool.or_false]
  · have hty : r.2.2.1 ≤ 6 := by
      by_cases c : 7 ≤ (r.2.2.1 : Int) ∧ (r.2.2.1 : Int) ≤ 9
      · exact absurd (txtB_iff.2 c) ht
      · omega
    have hnb := numB_iff.2 (show 1 ≤ (r.2.2.1 : Int) ∧ (r.2.2.1 : Int) ≤ 6 by omega)
    have hsl : (r.2.2.2.1 : Int) < 6 := by have := t3 hty; omega
    obtain ⟨e1, -, -⟩ := pl_num (m := m) hnb (Int.natCast_nonneg _) hsl
    obtain ⟨o1, o2⟩ := err_one he'
    rw [e1, Int.toNat_natCast] at o1 o2 ⊢
    have hnn := hn r.2.2.2.1 (by omega)
    have hst := set_num (m := cleanM m P) (x := ((((r.2.1 : Nat) : Int), (rwireV (r.2.2.1 : Int)).toNat, (if (r.2.2.1 : Int) = 3 then zigN (wrap64 (m.n r.2.2.2.1)) else m.n r.2.2.2.1), sB (plS m r.2.2.1 r.2.2.2.1), 0) : Fld)) hnb (Int.natCast_nonneg _) hsl
    have hv : numV (r.2.2.1 : Int) (if (r.2.2.1 : Int) = 3 then zigN (wrap64 (m.n r.2.2.2.1)) else m.n r.2.2.2.1) = m.n r.2.2.2.1 := by
      unfold numV
      by_cases c1 : (r.2.2.1 : Int) = 1
      · rw [if_pos c1, if_neg (by omega)]; exact Nat.mod_eq_of_lt (by have := o1 (.inl c1); omega)
      rw [if_neg c1]
      by_cases c4 : (r.2.2.1 : Int) = 4
      · rw [if_pos c4, if_neg (by omega)]; have := o2 c4; omega
      rw [if_neg c4]
      by_cases c3 : (r.2.2.1 : Int) = 3
      · rw [if_pos c3, if_pos c3]; exact zag_zig hnn
      · rw [if_neg c3, if_neg c3]
    rw [decF_step (hb _ _) (by rw [hst]), hst]
    refine Prod.ext (msg_ext rfl (fun i => ?_) (fun i => ?_) ?_) rfl
    · show (if i = (r.2.2.2.1 : Int).toNat then numV (r.2.2.1 : Int) (if (r.2.2.1 : Int) = 3 then zigN (wrap64 (m.n r.2.2.2.1)) else m.n r.2.2.2.1) else (cleanM m P).n i) = _
      rw [hv, Int.toNat_natCast, cn, cn, hasN_snoc]
      have e6 : decide (rTyp r ≤ 6) = true := decide_eq_true (by simp only [rTyp]; omega)
      rw [e6, Bool.true_and]
      by_cases c : i = r.2.2.2.1
      · subst c
        rw [if_pos rfl, if_pos (by simp [rSlot])]
      · rw [if_neg c]
        have : (rSlot r == i) = false := by simp only [rSlot]; rw [beq_eq_false_iff_ne]; omega
        rw [this, Bool.or_false]
    · show (cleanM m P).s i = _
      rw [cs, cs, hasS_snoc]
      have : decide (7 ≤ rTyp r) = false := decide_eq_false (by simp only [rTyp]; omega)
      rw [this, Bool.false_and, Bool.false_and, Bool.or_false]
    · show (cleanM m P).l = _
      rw [cl, cl, hasL_snoc]
      have : decide (10 ≤ rTyp r) = false := decide_eq_false (by simp only [rTyp]; omega)
      rw [this, Bool.or_false]
/-- all rows' fields -/
theorem dec_rows {m : Msg} {k : Nat} {ver : Int} (hn : ∀ i, i < 6 → m.n i < 18446744073709551616) : ∀ (Q P : List Row), (∀ r ∈ Q, r ∈ ofKind k (rowsIn ver)) → (∀ r ∈ Q, errR m r = 0) → (∀ r ∈ Q, r.2.2.1 = 10 → hasL P = false) → Q.Pairwise (fun r r' => ¬ (r.2.2.1 = 10 ∧ r'.2.2.1 = 10)) →
    decF k ver (cleanM m P) (msgFs m Q) = (cleanM m (P ++ Q), 0, 0)
  | [], P, _, _, _, _ => by rw [List.append_nil]; rfl
  | r :: Q, P, h1, h2, h3, h4 => by
    obtain ⟨p1, p2⟩ := List.pairwise_cons.1 h4
    have hd := dec_row (m := m) (P := P) (h1 r (List.mem_cons_self ..)) (h2 r (List.mem_cons_self ..)) hn (h3 r (List.mem_cons_self ..))
    show decF k ver (cleanM m P) (rowFs m r ++ msgFs m Q) = _
    rw [decF_app k ver _ _ _ (by rw [hd]), hd]
    have := dec_rows hn Q (P ++ [r]) (fun x hx => h1 x (List.mem_cons_of_mem _ hx)) (fun x hx => h2 x (List.mem_cons_of_mem _ hx)) (fun x hx e => by
      have e1 := h3 x (List.mem_cons_of_mem _ hx) e
      have e2 := p1 x hx
      rw [hasL_snoc, e1, Bool.false_or]
      have t2 := (of_ok (h1 r (List.mem_cons_self ..))).2.1
      exact decide_eq_false (by simp only [rTyp] at *; omega)) p2
    rw [List.append_assoc] at this
    exact this
end Go.Proofs.YtbjoohafgkodcaaGreat
namespace Go.Proofs.YtbjoohafgkodcaaGreat
open Go Go.RowKit Go.Shelf

theorem set_parts {s : Msg} {t sl : Int} {x : Fld} (h : (setM s t sl x).2 = 0) :
    (t = 10 ∧ s.l.length < 64 ∧ chkV (bS (fB x)) 64 = 0 ∧ (setM s t sl x).1 = ⟨s.k, s.n, s.s, s.l ++ [bS (fB x)]⟩) ∨
    (txtB t = true ∧ 0 ≤ sl ∧ sl < 2 ∧ chkV (bS (fB x)) (mostV t) = 0 ∧ (setM s t sl x).1 = ⟨s.k, s.n, fun i => if i = sl.toNat then bS (fB x) else s.s i, s.l⟩) ∨
    (numB t = true ∧ 0 ≤ sl ∧ sl < 6 ∧ (setM s t sl x).1 = ⟨s.k, fun i => if i = sl.toNat then numV t (fN x) else s.n i, s.s, s.l⟩) := by
  by_cases h10 : t = 10
  · subst h10
    unfold setM at h ⊢
    rw [if_pos rfl] at h ⊢
    by_cases c : 64 ≤ s.l.length
    · rw [if_pos c] at h; simp at h
    rw [if_neg c] at h ⊢
    by_cases d : chkV (bS (fB x)) 64 ≠ 0
    · rw [if_pos d] at h; exact absurd h d
    · rw [if_neg d]; exact .inl ⟨rfl, by omega, by omega, rfl⟩
  by_cases ht : txtB t = true ∧ 0 ≤ sl ∧ sl < 2
  · unfold setM at h ⊢
    rw [if_neg h10, if_pos ht] at h ⊢
    by_cases d : chkV (bS (fB x)) (mostV t) ≠ 0
    · rw [if_pos d] at h; exact absurd h d
    · rw [if_neg d]; exact .inr (.inl ⟨ht.1, ht.2.1, ht.2.2, by omega, rfl⟩)
  by_cases hn : numB t = true ∧ 0 ≤ sl ∧ sl < 6
  · exact .inr (.inr ⟨hn.1, hn.2.1, hn.2.2, by rw [set_num hn.1 hn.2.1 hn.2.2]⟩)
  · unfold setM at h
    rw [if_neg h10, if_neg ht, if_neg hn] at h
    simp at h
/-- what is known of a message that is being read -/
structure Inv (L : List Row) (k : Nat) (s : Msg) : Prop where
  kind : s.k = k
  err : ∀ r ∈ L, errR s r = 0
  num : ∀ i, i < 6 → hasN L i = false → s.n i = 0
  txt : ∀ i, i < 2 → hasS L i = false → s.s i = ⟨#[]⟩
  lst : hasL L = false → s.l = []
  lt : ∀ i, i < 6 → s.n i < 18446744073709551616
theorem numV_lt {t : Int} {n : Nat} (h : n < 18446744073709551616) : numV t n < 18446744073709551616 := by
  unfold numV
  split
  · omega
  split
  · omega
  split
  · exact zagN_lt h
  · exact h
theorem set_inv {k : Nat} {ver : Int} {s : Msg} {r : Row} {x : Fld} (hr : r ∈ ofKind k (rowsIn ver)) (hi : Inv (ofKind k (rowsIn ver)) k s) (hx : fN x < 18446744073709551616) (h5 : fWire x = 5 → fN x < 4294967296)
    (hw : (fWire x : Int) = (wireV r.2.2.1).1) (h : (setM s r.2.2.1 r.2.2.2.1 x).2 = 0) : Inv (ofKind k (rowsIn ver)) k (setM s r.2.2.1 r.2.2.2.1 x).1 := by
  have hra := (ofKind_sub hr).1
  obtain ⟨t1, t2, t3, t4⟩ := rows_ok r hra
  simp only [rTyp, rSlot] at t1 t2 t3 t4
  have hoth : ∀ r' ∈ ofKind k (rowsIn ver), r ≠ r' → errR (setM s r.2.2.1 r.2.2.2.1 x).1 r' = 0 := fun r' hr' hne => by
    obtain ⟨k1, k2⟩ := of_ne hr hr' hne
    obtain ⟨p1, p2, p3⟩ := rows_place r hra r' (ofKind_sub hr').1 k1 k2
    have u2 := (of_ok hr').2.1
    simp only [rTyp] at u2
    show errM _ (r'.2.2.1 : Int) (r'.2.2.2.1 : Int) = 0
    refine (errM_place (b := s) ?_ ?_ ?_).trans (hi.err r' hr')
    · unfold plN
      split
      · rename_i hh
        have := numB_iff.1 hh.1
        rcases set_parts h with ⟨e, -, -, q⟩ | ⟨e, -, -, -, q⟩ | ⟨e, -, -, q⟩
        · rw [q]
        · rw [q]
        · rw [q]
          have := numB_iff.1 e
          simp only
          rw [if_neg (fun c => p3 ⟨by omega, by omega, by omega⟩)]
      · rfl
    · unfold plS
      split
      · rename_i hh
        have := txtB_iff.1 hh.1
        rcases set_parts h with ⟨e, -, -, q⟩ | ⟨e, -, -, -, q⟩ | ⟨e, -, -, q⟩
        · rw [q]
        · rw [q]
          have := txtB_iff.1 e
          simp only
          rw [if_neg (fun c => p2 ⟨by omega, by omega, by omega, by omega, by omega⟩)]
        · rw [q]
      · rfl
    · unfold plL
      split
      · rename_i hh
        rcases set_parts h with ⟨e, -, -, q⟩ | ⟨e, -, -, -, q⟩ | ⟨e, -, -, q⟩
        · exact absurd ⟨by omega, by omega⟩ p1
        · rw [q]
        · rw [q]
      · rfl
  have hself : errR (setM s r.2.2.1 r.2.2.2.1 x).1 r = 0 := by
    show errM _ (r.2.2.1 : Int) (r.2.2.2.1 : Int) = 0
    have hold : errM s (r.2.2.1 : Int) (r.2.2.2.1 : Int) = 0 := hi.err r hr
    rcases set_parts h with ⟨e, l1, c, q⟩ | ⟨e, l1, l2, c, q⟩ | ⟨e, l1, l2, q⟩
    · rw [q]
      rw [e] at hold ⊢
      rw [err_list] at hold ⊢
      rw [if_neg (by omega)] at hold
      simp only [List.length_append, List.length_cons, List.length_nil]
      rw [if_neg (by omega)]
      exact firstE_snoc hold c
    · rw [q, err_txt e l1 l2]
      simp only
      rw [if_pos trivial]; exact c
    · rw [q, err_num e l1 l2]
      simp only
      rw [if_pos trivial, if_neg]
      have hwv := (rwireV_eq (t := (r.2.2.1 : Int)) (by omega) (by omega)).1
      unfold numV
      rintro (⟨c | c, d⟩ | ⟨c, d⟩)
      · rw [if_pos c] at d; omega
      · rw [if_neg (by omega), if_neg (by omega), if_neg (by omega)] at d
        have : fWire x = 5 := by rw [hwv, c] at hw; have h55 : rwireV 5 = 5 := rfl; rw [h55] at hw; omega
        have := h5 this; omega
      · rw [if_neg (by omega), if_pos c] at d; omega
  refine ⟨?_, fun r' hr' => ?_, fun i hi6 hh => ?_, fun i hi2 hh => ?_, fun hh => ?_, fun i hi6 => ?_⟩
  · rcases set_parts h with ⟨-, -, -, q⟩ | ⟨-, -, -, -, q⟩ | ⟨-, -, -, q⟩ <;> (rw [q]; exact hi.kind)
  · by_cases e : r = r'
    · rw [← e]; exact hself
    · exact hoth r' hr' e
  · rcases set_parts h with ⟨-, -, -, q⟩ | ⟨-, -, -, -, q⟩ | ⟨e, l1, l2, q⟩
    · rw [q]; exact hi.num i hi6 hh
    · rw [q]; exact hi.num i hi6 hh
    · rw [q]
      have := numB_iff.1 e
      simp only
      rw [if_neg (fun c => by
        have ht : hasN (ofKind k (rowsIn ver)) i = true := by
          unfold hasN
          refine List.any_eq_true.2 ⟨r, hr, ?_⟩
          simp only [Bool.and_eq_true, decide_eq_true_eq, beq_iff_eq, rTyp, rSlot]
          omega
        rw [ht] at hh; cases hh)]
      exact hi.num i hi6 hh
  · rcases set_parts h with ⟨-, -, -, q⟩ | ⟨e, l1, l2, -, q⟩ | ⟨-, -, -, q⟩
    · rw [q]; exact hi.txt i hi2 hh
    · rw [q]
      have := txtB_iff.1 e
      simp only
      rw [if_neg (fun c => by
        have ht : hasS (ofKind k (rowsIn ver)) i = true := by
          unfold hasS
          refine List.any_eq_true.2 ⟨r, hr, ?_⟩
          simp only [Bool.and_eq_true, decide_eq_true_eq, beq_iff_eq, rTyp, rSlot]
          omega
        rw [ht] at hh; cases hh)]
      exact hi.txt i hi2 hh
    · rw [q]; exact hi.txt i hi2 hh
  · rcases set_parts h with ⟨e, -, -, q⟩ | ⟨-, -, -, -, q⟩ | ⟨-, -, -, q⟩
    · exfalso
      have ht : hasL (ofKind k (rowsIn ver)) = true := by
        unfold hasL
        refine List.any_eq_true.2 ⟨r, hr, ?_⟩
        simp only [decide_eq_true_eq, rTyp]
        omega
      rw [ht] at hh; cases hh
    · rw [q]; exact hi.lst hh
    · rw [q]; exact hi.lst hh
  · rcases set_parts h with ⟨-, -, -, q⟩ | ⟨-, -, -, -, q⟩ | ⟨-, -, -, q⟩
    · rw [q]; exact hi.lt i hi6
    · rw [q]; exact hi.lt i hi6
    · rw [q]
      simp only
      split
      · exact numV_lt hx
      · exact hi.lt i hi6
theorem dec_inv {k : Nat} {ver : Int} : ∀ (l : List Fld) (s : Msg), (∀ x ∈ l, fN x < 18446744073709551616 ∧ (fWire x = 5 → fN x < 4294967296)) → Inv (ofKind k (rowsIn ver)) k s → (decF k ver s l).2.1 = 0 → Inv (ofKind k (rowsIn ver)) k (decF k ver s l).1
  | [], s, _, hi, _ => hi
  | x :: l, s, hx, hi, h => by
    have hx' := fun y hy => hx y (List.mem_cons_of_mem _ hy)
    cases hb : belR k ver x with
    | none => rw [decF_skip hb] at h ⊢; exact dec_inv l s hx' hi h
    | some r =>
      obtain ⟨b1, b2, b3⟩ := belR_mem hb
      by_cases he : (setM s r.2.2.1 r.2.2.2.1 x).2 = 0
      · rw [decF_step hb he] at h ⊢
        have hxx := hx x (List.mem_cons_self ..)
        exact dec_inv l _ hx' (set_inv b1 hi hxx.1 hxx.2 b3 he) h
      · rw [decF_stop hb he] at h; exact absurd h he
theorem def_m0 (k : Nat) (t sl : Int) : defB (m0 k) t sl = true := by
  have e1 : plN (m0 k) t sl = 0 := by unfold plN; split <;> rfl
  have e2 : plS (m0 k) t sl = ⟨#[]⟩ := by unfold plS; split <;> rfl
  have e3 : plL (m0 k) t = [] := by unfold plL; split <;> rfl
  unfold defB
  rw [e1, e2, e3]
  simp [ByteArray.toList_eq]
theorem inv_m0 (k : Nat) (ver : Int) : Inv (ofKind k (rowsIn ver)) k (m0 k) := by
  refine ⟨rfl, fun r hr => ?_, fun _ _ _ => rfl, fun _ _ _ => rfl, fun _ => rfl, fun i _ => by show (0 : Nat) < _; omega⟩
  exact def_err (def_m0 k _ _) (by have := (of_ok hr).2.1; simp only [rTyp] at *; omega)
theorem inv_chk {k : Nat} {ver : Int} {s : Msg} (hne : ofKind k (rowsIn ver) ≠ []) (hi : Inv (ofKind k (rowsIn ver)) k s) : chkM s (ofKind k (rowsIn ver)) = (0, 0) := by
  have hf : (ofKind k (rowsIn ver)).find? (fun r => errR s r != 0) = none := by
    rw [List.find?_eq_none]
    intro r hr
    simp [hi.err r hr]
  rw [chk_end hne hf, if_pos]
  refine sameB_iff.2 ⟨rfl, fun i h6 => ?_, fun i h2 => ?_, ?_⟩
  · rw [cn]
    split
    · rfl
    · rename_i c; exact (hi.num i h6 (by simpa using c)).symm
  · rw [cs]
    split
    · rfl
    · rename_i c; exact (hi.txt i h2 (by simpa using c)).symm
  · rw [cl]
    split
    · rfl
    · rename_i c; exact (hi.lst (by simpa using c)).symm
theorem fields_num {b : List UInt8} (h : (fieldsR b).2.1 = 0) : ∀ x ∈ (fieldsR b).1, fN x < 18446744073709551616 ∧ (fWire x = 5 → fN x < 4294967296) := fun x hx => by
  obtain ⟨h1, h2⟩ := (fieldsF_all b _ 0 0 (Nat.zero_le _) (by omega) h).1 x hx
  refine ⟨h1.2.2.2, fun h5 => ?_⟩
  have e := congrArg fN h2
  unfold bareF at e
  rw [if_neg (by omega), if_pos h5] at e
  simp only [fN] at e ⊢
  omega
/-- whatever is read may be -/
theorem dec_may {k : Nat} {ver : Int} {b : List UInt8} (h : (decM k ver b).2.1 = 0) : Inv (ofKind k (rowsIn ver)) k (decM k ver b).1 ∧ chkM (decM k ver b).1 (ofKind k (rowsIn ver)) = (0, 0) := by
  unfold decM at h ⊢
  by_cases h1 : ofKind k (rowsIn ver) = []
  · rw [if_pos h1] at h; simp at h
  rw [if_neg h1] at h ⊢
  by_cases h2 : 8192 < b.length
  · rw [if_pos h2] at h; simp at h
  rw [if_neg h2] at h ⊢
  by_cases h3 : (fieldsR b).2.1 ≠ 0
  · rw [if_pos h3] at h; exact absurd h h3
  rw [if_neg h3] at h ⊢
  have := dec_inv _ _ (fields_num (by omega)) (inv_m0 k ver) h
  exact ⟨this, inv_chk h1 this⟩
/-- a message that may be is read as it was written -/
theorem dec_own {m : Msg} {ver : Int} (h : (chkM m (ofKind m.k (rowsIn ver))).1 = 0) (hn : ∀ i, i < 6 → m.n i < 18446744073709551616) :
    decM m.k ver (msgB m (ofKind m.k (rowsIn ver))) = (cleanM m (ofKind m.k (rowsIn ver)), 0, 0) ∧ (unkM m.k ver (msgB m (ofKind m.k (rowsIn ver)))).1 = [] ∧ sameB (cleanM m (ofKind m.k (rowsIn ver))) m = true := by
  obtain ⟨-, h8, hok, hl, hk, hg⟩ := small_msg h hn
  obtain ⟨he, hc⟩ := chk_oks h
  have hne : ofKind m.k (rowsIn ver) ≠ [] := fun e => by rw [e] at h; simp [chkM] at h
  have hst := read_st h hn
  have hp : (ofKind m.k (rowsIn ver)).Pairwise (fun r r' => ¬ (r.2.2.1 = 10 ∧ r'.2.2.1 = 10)) :=
    List.Pairwise.imp_of_mem (fun {a b} ha hb hlt => by
      have e1 := ofKind_sub ha
      have e2 := ofKind_sub hb
      exact (rows_place a e1.1 b e2.1 (by rw [e1.2, e2.2]) (by omega)).1) (of_pair m.k ver)
  have hd := dec_rows (m := m) (k := m.k) (ver := ver) hn (ofKind m.k (rowsIn ver)) [] (fun r hr => hr) he (fun _ _ _ => rfl) hp
  rw [List.nil_append, clean_nil] at hd
  have hd2 := decF_st m.k ver (fieldsR (msgB m (ofKind m.k (rowsIn ver)))).1 (m0 m.k)
  have e1 : (fieldsR (msgB m (ofKind m.k (rowsIn ver)))).1.map (fun x => (x.1, x.2.1, x.2.2.1, x.2.2.2.1, 0)) = msgFs m (ofKind m.k (rowsIn ver)) := hst
  rw [e1, hd] at hd2
  have hdm : decM m.k ver (msgB m (ofKind m.k (rowsIn ver))) = decF m.k ver (m0 m.k) (fieldsR (msgB m (ofKind m.k (rowsIn ver)))).1 := by
    unfold decM
    rw [if_neg hne, if_neg (by omega), if_neg (by rw [hok]; simp)]
  have hz : ∀ (l : List Fld) (s : Msg), (decF m.k ver s l).2.1 = 0 → (decF m.k ver s l).2.2 = 0 := by
    intro l
    induction l with
    | nil => intro s _; rfl
    | cons x l ih =>
      intro s hs
      cases hb : belR m.k ver x with
      | none => rw [decF_skip hb] at hs ⊢; exact ih s hs
      | some r =>
        by_cases c : (setM s r.2.2.1 r.2.2.2.1 x).2 = 0
        · rw [decF_step hb c] at hs ⊢; exact ih _ hs
        · rw [decF_stop hb c] at hs; exact absurd hs c
  have hall : decM m.k ver (msgB m (ofKind m.k (rowsIn ver))) = (cleanM m (ofKind m.k (rowsIn ver)), 0, 0) := by
    rw [hdm]
    exact Prod.ext hd2.1.symm (Prod.ext hd2.2.symm (hz _ _ hd2.2.symm))
  refine ⟨hall, ?_, hc⟩
  unfold unkM
  rw [if_neg (by rw [hall]; simp)]
  show List.filter _ _ = []
  rw [List.filter_eq_nil_iff]
  intro x hx
  obtain ⟨j, hj, rfl⟩ := List.getElem_of_mem hx
  have hj2 : j < (msgFs m (ofKind m.k (rowsIn ver))).length := by rw [← hl]; exact hj
  have e := likeF_iff.1 (hk j hj hj2)
  obtain ⟨r, hr, g⟩ := hg _ (List.getElem_mem hj2)
  have hb := belR_good hr (x := (fieldsR (msgB m (ofKind m.k (rowsIn ver)))).1[j]) (e.1.trans g.num) (by
    have := g.wire
    show (((fieldsR (msgB m (ofKind m.k (rowsIn ver)))).1[j].2.1 : Nat) : Int) = _
    rw [e.2.1]; exact this)
  rw [hb]; simp
end Go.Proofs.YtbjoohafgkodcaaGreat
namespace Go.Proofs.YtbjoohafgkodcaaGreat
open Go Go.RowKit Go.Shelf

theorem decF_app_err (k : Nat) (ver : Int) : ∀ (a b : List Fld) (m : Msg), (decF k ver m a).2.1 ≠ 0 → decF k ver m (a ++ b) = decF k ver m a
  | [], b, m, h => absurd rfl h
  | x :: a, b, m, h => by
    rw [List.cons_append]
    cases hb : belR k ver x with
    | none =>
      rw [decF_skip hb] at h
      rw [decF_skip hb, decF_skip hb]
      exact decF_app_err k ver a b m h
    | some r =>
      by_cases he : (setM m r.2.2.1 r.2.2.2.1 x).2 = 0
      · rw [decF_step hb he] at h
        rw [decF_step hb he, decF_step hb he]
        exact decF_app_err k ver a b _ h
      · rw [decF_stop hb he, decF_stop hb he]
theorem decF_at (k : Nat) (ver : Int) : ∀ (l : List Fld) (s : Msg), (decF k ver s l).2.1 = 0 → (decF k ver s l).2.2 = 0
  | [], s, _ => rfl
  | x :: l, s, hs => by
    cases hb : belR k ver x with
    | none => rw [decF_skip hb] at hs ⊢; exact decF_at k ver l s hs
    | some r =>
      by_cases c : (setM s r.2.2.1 r.2.2.2.1 x).2 = 0
      · rw [decF_step hb c] at hs ⊢; exact decF_at k ver l _ hs
      · rw [decF_stop hb c] at hs; exact absurd hs c
theorem decM_ne {k : Nat} {ver : Int} {b : List UInt8} (h1 : ofKind k (rowsIn ver) ≠ []) (h2 : b.length ≤ 8192) (h3 : (fieldsR b).2.1 = 0) : decM k ver b = decF k ver (m0 k) (fieldsR b).1 := by
  unfold decM; rw [if_neg h1, if_neg (by omega), if_neg (by omega)]
/-- fields that are put are read -/
theorem read_fs {xs : List Fld} (hx : ∀ x ∈ xs, x.ok ∧ (putF x).2 = 0) : (fieldsR (bytesFs xs)).2 = (0, 0) ∧ (fieldsR (bytesFs xs)).1.map stF = (xs.map bareF).map stF := by
  have hp := putsF_all xs 0 fun x h => (hx x h).2
  have h := fieldsAt_put xs (bytesFs xs) 0 0 (fun x h => (hx x h).1) (by rw [hp]) (Nat.zero_le _) (by rw [hp]; rfl)
  have e : fieldsAt (bytesFs xs) 0 = fieldsR (bytesFs xs) := rfl
  rw [e] at h
  obtain ⟨h1, h2, h3⟩ := h
  refine ⟨h1, List.ext_getElem (by simp [h2]) fun j h4 h5 => ?_⟩
  simp only [List.length_map] at h4 h5
  rw [List.getElem_map, List.getElem_map, List.getElem_map]
  have e := likeF_iff.1 (h3 j h4 h5)
  exact Prod.ext e.1 (Prod.ext e.2.1 (Prod.ext e.2.2.1 (Prod.ext e.2.2.2 rfl)))
theorem decF_st2 {k : Nat} {ver : Int} {m : Msg} {a b : List Fld} (h : a.map stF = b.map stF) : (decF k ver m a).1 = (decF k ver m b).1 ∧ (decF k ver m a).2.1 = (decF k ver m b).2.1 := by
  have h1 := decF_st k ver a m
  have h2 := decF_st k ver b m
  have e1 : a.map (fun x => (x.1, x.2.1, x.2.2.1, x.2.2.2.1, (0 : Int))) = a.map stF := rfl
  have e2 : b.map (fun x => (x.1, x.2.1, x.2.2.1, x.2.2.2.1, (0 : Int))) = b.map stF := rfl
  rw [e1, h] at h1
  rw [e2] at h2
  exact ⟨h1.1.symm.trans h2.1, h1.2.symm.trans h2.2⟩
/-- the message of fields that are put -/
theorem dec_fs {k : Nat} {ver : Int} {xs : List Fld} (hne : ofKind k (rowsIn ver) ≠ []) (hlen : (bytesFs xs).length ≤ 8192) (hx : ∀ x ∈ xs, x.ok ∧ (putF x).2 = 0) :
    (decM k ver (bytesFs xs)).1 = (decF k ver (m0 k) (xs.map bareF)).1 ∧ (decM k ver (bytesFs xs)).2.1 = (decF k ver (m0 k) (xs.map bareF)).2.1 := by
  obtain ⟨h1, h2⟩ := read_fs hx
  rw [decM_ne hne hlen (by rw [h1])]
  exact decF_st2 h2
theorem decM_at {k : Nat} {ver : Int} {b : List UInt8} (h : (decM k ver b).2.1 = 0) : (decM k ver b).2.2 = 0 := by
  unfold decM at h ⊢
  split
  · rfl
  split
  · rfl
  rename_i h1 h2
  rw [if_neg h1, if_neg h2] at h
  split
  · rename_i h3
    rw [if_pos h3] at h; exact absurd h h3
  · rename_i h3
    rw [if_neg h3] at h
    exact decF_at _ _ _ _ h
theorem decM_z {k : Nat} {ver : Int} {b : List UInt8} (h : (decM k ver b).2.1 = 0) : decM k ver b = ((decM k ver b).1, 0, 0) := Prod.ext rfl (Prod.ext h (decM_at h))
/-- a message on which another is laid -/
def mrg (s b : Msg) (P : List Row) : Msg := ⟨s.k, fun i => if hasN P i = true ∧ b.n i ≠ 0 then b.n i else s.n i, fun i => if hasS P i = true ∧ b.s i ≠ ⟨#[]⟩ then b.s i else s.s i, if hasL P = true then s.l ++ b.l else s.l⟩
theorem mg_n (s b : Msg) (P : List Row) (i : Nat) : (mrg s b P).n i = if hasN P i = true ∧ b.n i ≠ 0 then b.n i else s.n i := rfl
theorem mg_s (s b : Msg) (P : List Row) (i : Nat) : (mrg s b P).s i = if hasS P i = true ∧ b.s i ≠ ⟨#[]⟩ then b.s i else s.s i := rfl
theorem mg_l (s b : Msg) (P : List Row) : (mrg s b P).l = if hasL P = true then s.l ++ b.l else s.l := rfl
theorem mg_nil (s b : Msg) : mrg s b [] = s := msg_ext rfl (fun _ => rfl) (fun _ => rfl) rfl
theorem mg_skip {s b : Msg} {P : List Row} {r : Row} (hr : r ∈ rowsAll) (hd : defB b r.2.2.1 r.2.2.2.1 = true) : mrg s b (P ++ [r]) = mrg s b P := by
  obtain ⟨t1, t2, t3, t4⟩ := rows_ok r hr
  obtain ⟨e1, e2, e3⟩ := def_zero hd
  refine msg_ext rfl (fun i => ?_) (fun i => ?_) ?_
  · rw [mg_n, mg_n, hasN_snoc]
    by_cases hc : (decide (rTyp r ≤ 6) && rSlot r == i) = true
    · have h := hc
      simp only [Bool.and_eq_true, decide_eq_true_eq, beq_iff_eq] at h
      rw [(pl_num (m := b) (numB_iff.2 (by have := h.1; simp only [rTyp] at *; omega)) (by omega) (by have := t3 h.1; simp only [rSlot] at this; omega)).1] at e1
      have e0 : b.n i = 0 := by rw [← h.2]; simpa using e1
      rw [if_neg (fun x => x.2 e0), if_neg (fun x => x.2 e0)]
    · have hc' : (decide (rTyp r ≤ 6) && rSlot r == i) = false := by simpa using hc
      rw [hc', Bool.or_false]
  · rw [mg_s, mg_s, hasS_snoc]
    by_cases hc : (decide (7 ≤ rTyp r) && decide (rTyp r ≤ 9) && rSlot r == i) = true
    · have h := hc
      simp only [Bool.and_eq_true, decide_eq_true_eq, beq_iff_eq] at h
      rw [(pl_txt (m := b) (txtB_iff.2 (by have := h.1; simp only [rTyp] at *; omega)) (by omega) (by have := t4 h.1.1 h.1.2; simp only [rSlot] at this; omega)).2.1] at e2
      have e0 : b.s i = ⟨#[]⟩ := by rw [← h.2]; simpa using e2
      rw [if_neg (fun x => x.2 e0), if_neg (fun x => x.2 e0)]
    · have hc' : (decide (7 ≤ rTyp r) && decide (rTyp r ≤ 9) && rSlot r == i) = false := by simpa using hc
      rw [hc', Bool.or_false]
  · rw [mg_l, mg_l, hasL_snoc]
    by_cases c : hasL P = true
    · rw [c]; rfl
    · rw [if_neg c]
      have c' : hasL P = false := by simpa using c
      rw [c', Bool.false_or]
      split
      · rename_i h
        simp only [decide_eq_true_eq] at h
        unfold plL at e3
        rw [if_pos (by simp only [rTyp] at *; omega)] at e3
        rw [e3, List.append_nil]
      · rfl
/-- a list that grows too long -/
theorem dec_list_long {k : Nat} {ver : Int} {r : Row} (hr : r ∈ ofKind k (rowsIn ver)) (h10 : (r.2.2.1 : Int) = 10) : ∀ (l : List ByteArray) (s : Msg), (∀ x ∈ l, chkV x 64 = 0) → s.l.length ≤ 64 → 64 < s.l.length + l.length →
    (decF k ver s (l.map fun x => (((r.2.1 : Nat) : Int), 2, 0, sB x, 0))).2.1 = 2
  | [], s, _, h1, h2 => by simp at h2; omega
  | x :: l, s, h, hl, h2 => by
    rw [List.length_cons] at h2
    rw [List.map_cons]
    have hb : belR k ver ((((r.2.1 : Nat) : Int), 2, 0, sB x, 0) : Fld) = some r := belR_good hr rfl (by rw [h10]; rfl)
    by_cases hf : s.l.length < 64
    · have hst := set_list (m := s) (sl := (r.2.2.2.1 : Int)) (x := (((r.2.1 : Nat) : Int), 2, 0, sB x, 0)) hf (by show chkV (bS (sB x)) 64 = 0; rw [bS_sB]; exact h x (List.mem_cons_self ..))
      rw [← h10] at hst
      rw [decF_step hb (by rw [hst]), hst]
      exact dec_list_long hr h10 l _ (fun y hy => h y (List.mem_cons_of_mem _ hy)) (by simp only [List.length_append, List.length_cons, List.length_nil]; omega) (by simp only [List.length_append, List.length_cons, List.length_nil]; omega)
    · have hst : (setM s (r.2.2.1 : Int) (r.2.2.2.1 : Int) (((r.2.1 : Nat) : Int), 2, 0, sB x, 0)) = (mZ, 2) := by
        rw [h10]; unfold setM; rw [if_pos rfl, if_pos (by omega)]
      rw [decF_stop hb (by rw [hst]; simp), hst]
/-- a row's fields behind a message -/
theorem over_row {s m : Msg} {k : Nat} {ver : Int} {P : List Row} {r : Row} (hr : r ∈ ofKind k (rowsIn ver)) (he : errR m r = 0) (hn : ∀ i, i < 6 → m.n i < 18446744073709551616) (hP : r.2.2.1 = 10 → hasL P = false) (hfit : s.l.length + m.l.length ≤ 64) :
    decF k ver (mrg s m P) (rowFs m r) = (mrg s m (P ++ [r]), 0, 0) := by
  have hra := (ofKind_sub hr).1
  obtain ⟨t1, t2, t3, t4⟩ := rows_ok r hra
  simp only [rTyp, rSlot] at t1 t2 t3 t4
  obtain ⟨w1, w2, -, -⟩ := rwireV_eq (t := (r.2.2.1 : Int)) (by omega) (by omega)
  have he' : errM m (r.2.2.1 : Int) (r.2.2.2.1 : Int) = 0 := he
  by_cases hd : defB m r.2.2.1 r.2.2.2.1 = true
  · rw [mg_skip hra hd]
    unfold rowFs; rw [if_pos hd]; rfl
  unfold rowFs
  rw [if_neg hd]
  by_cases h10 : (r.2.2.1 : Int) = 10
  · rw [if_pos h10]
    have he2 : errM m 10 (r.2.2.2.1 : Int) = 0 := by rw [← h10]; exact he'
    rw [err_list] at he2
    rw [if_neg (by omega)] at he2
    have hp := hP (by omega)
    have hcl : (mrg s m P).l = s.l := by rw [mg_l, hp]; rfl
    rw [dec_list hr h10 m.l _ (firstE_sz he2) (by rw [hcl]; exact hfit), hcl]
    refine Prod.ext (msg_ext rfl (fun i => ?_) (fun i => ?_) ?_) rfl
    · show (mrg s m P).n i = _
      rw [mg_n, mg_n, hasN_snoc]
      have : decide (rTyp r ≤ 6) = false := decide_eq_false (by simp only [rTyp]; omega)
      rw [this, Bool.false_and, Bool.or_false]
    · show (mrg s m P).s i = _
      rw [mg_s, mg_s, hasS_snoc]
      have : decide (rTyp r ≤ 9) = false := decide_eq_false (by simp only [rTyp]; omega)
      rw [this, Bool.and_false, Bool.false_and, Bool.or_false]
    · show s.l ++ m.l = _
      rw [mg_l, hasL_snoc]
      have : decide (10 ≤ rTyp r) = true := decide_eq_true (by simp only [rTyp]; omega)
      rw [this, Bool.or_true]; rfl
  rw [if_neg h10]
  have hb : ∀ Z b, belR k ver ((((r.2.1 : Nat) : Int), (rwireV (r.2.2.1 : Int)).toNat, Z, b, 0) : Fld) = some r := fun Z b => belR_good hr rfl (by rw [w1]; exact w2.symm)
  by_cases ht : txtB (r.2.2.1 : Int) = true
  · have hf := txtB_iff.1 ht
    have hsl : (r.2.2.2.1 : Int) < 2 := by have := t4 (by omega) (by omega); omega
    obtain ⟨-, e2, -⟩ := pl_txt (m := m) ht (Int.natCast_nonneg _) hsl
    rw [Int.toNat_natCast] at e2
    rw [e2]
    have hne : m.s r.2.2.2.1 ≠ ⟨#[]⟩ := fun e0 => hd (by rw [def_txt ht (Int.natCast_nonneg _) hsl, Int.toNat_natCast, e0]; simp [ByteArray.toList_eq])
    rw [err_txt ht (Int.natCast_nonneg _) hsl, Int.toNat_natCast] at he'
    have hst := set_txt (m := mrg s m P) (x := ((((r.2.1 : Nat) : Int), (rwireV (r.2.2.1 : Int)).toNat, (if (r.2.2.1 : Int) = 3 then zigN (wrap64 (plN m r.2.2.1 r.2.2.2.1)) else plN m r.2.2.1 r.2.2.2.1), sB (m.s r.2.2.2.1), 0) : Fld)) ht (Int.natCast_nonneg _) hsl (by show chkV (bS (sB _)) _ = 0; rw [bS_sB]; exact he')
    rw [decF_step (hb _ _) (by rw [hst]), hst]
    refine Prod.ext (msg_ext rfl (fun i => ?_) (fun i => ?_) ?_) rfl
    · show (mrg s m P).n i = _
      rw [mg_n, mg_n, hasN_snoc]
      have : decide (rTyp r ≤ 6) = false := decide_eq_false (by simp only [rTyp]; omega)
      rw [this, Bool.false_and, Bool.or_false]
    · show (if i = (r.2.2.2.1 : Int).toNat then bS (sB (m.s r.2.2.2.1)) else (mrg s m P).s i) = _
      rw [Int.toNat_natCast, bS_sB, mg_s, mg_s, hasS_snoc]
      have e7 : decide (7 ≤ rTyp r) = true := decide_eq_true (by simp only [rTyp]; omega)
      have e9 : decide (rTyp r ≤ 9) = true := decide_eq_true (by simp only [rTyp]; omega)
      rw [e7, e9, Bool.true_and, Bool.true_and]
      by_cases c : i = r.2.2.2.1
      · subst c
        rw [if_pos rfl, if_pos ⟨by simp [rSlot], hne⟩]
      · rw [if_neg c]
        have : (rSlot r == i) = false := by simp only [rSlot]; rw [beq_eq_false_iff_ne]; omega
        rw [this, Bool.or_false]
    · show (mrg s m P).l = _
      rw [mg_l, mg_l, hasL_snoc]
      have : decide (10 ≤ rTyp r) = false := decide_eq_false (by simp only [rTyp]; omega)
      rw [this, Bool.or_false]
  · have hty : r.2.2.1 ≤ 6 := by
      by_cases c : 7 ≤ (r.2.2.1 : Int) ∧ (r.2.2.1 : Int) ≤ 9
      · exact absurd (txtB_iff.2 c) ht
      · omega
    have hnb := numB_iff.2 (show 1 ≤ (r.2.2.1 : Int) ∧ (r.2.2.1 : Int) ≤ 6 by omega)
    have hsl : (r.2.2.2.1 : Int) < 6 := by have := t3 hty; omega
    obtain ⟨e1, -, -⟩ := pl_num (m := m) hnb (Int.natCast_nonneg _) hsl
    have hne : m.n r.2.2.2.1 ≠ 0 := fun e0 => hd (by rw [def_num hnb (Int.natCast_nonneg _) hsl, Int.toNat_natCast, e0]; rfl)
    obtain ⟨o1, o2⟩ := err_one he'
    rw [e1, Int.toNat_natCast] at o1 o2 ⊢
    have hnn := hn r.2.2.2.1 (by omega)
    have hst := set_num (m := mrg s m P) (x := ((((r.2.1 : Nat) : Int), (rwireV (r.2.2.1 : Int)).toNat, (if (r.2.2.1 : Int) = 3 then zigN (wrap64 (m.n r.2.2.2.1)) else m.n r.2.2.2.1), sB (plS m r.2.2.1 r.2.2.2.1), 0) : Fld)) hnb (Int.natCast_nonneg _) hsl
    have hv : numV (r.2.2.1 : Int) (if (r.2.2.1 : Int) = 3 then zigN (wrap64 (m.n r.2.2.2.1)) else m.n r.2.2.2.1) = m.n r.2.2.2.1 := by
      unfold numV
      by_cases c1 : (r.2.2.1 : Int) = 1
      · rw [if_pos c1, if_neg (by omega)]; exact Nat.mod_eq_of_lt (by have := o1 (.inl c1); omega)
      rw [if_neg c1]
      by_cases c4 : (r.2.2.1 : Int) = 4
      · rw [if_pos c4, if_neg (by omega)]; have := o2 c4; omega
      rw [if_neg c4]
      by_cases c3 : (r.2.2.1 : Int) = 3
      · rw [if_pos c3, if_pos c3]; exact zag_zig hnn
      · rw [if_neg c3, if_neg c3]
    rw [decF_step (hb _ _) (by rw [hst]), hst]
    refine Prod.ext (msg_ext rfl (fun i => ?_) (fun i => ?_) ?_) rfl
    · show (if i = (r.2.2.2.1 : Int).toNat then numV (r.2.2.1 : Int) (if (r.2.2.1 : Int) = 3 then zigN (wrap64 (m.n r.2.2.2.1)) else m.n r.2.2.2.1) else (mrg s m P).n i) = _
      rw [hv, Int.toNat_natCast, mg_n, mg_n, hasN_snoc]
      have e6 : decide (rTyp r ≤ 6) = true := decide_eq_true (by simp only [rTyp]; omega)
      rw [e6, Bool.true_and]
      by_cases c : i = r.2.2.2.1
      · subst c
        rw [if_pos rfl, if_pos ⟨by simp [rSlot], hne⟩]
      · rw [if_neg c]
        have : (rSlot r == i) = false := by simp only [rSlot]; rw [beq_eq_false_iff_ne]; omega
        rw [this, Bool.or_false]
    · show (mrg s m P).s i = _
      rw [mg_s, mg_s, hasS_snoc]
      have : decide (7 ≤ rTyp r) = false := decide_eq_false (by simp only [rTyp]; omega)
      rw [this, Bool.false_and, Bool.false_and, Bool.or_false]
    · show (mrg s m P).l = _
      rw [mg_l, mg_l, hasL_snoc]
      have : decide (10 ≤ rTyp r) = false := decide_eq_false (by simp only [rTyp]; omega)
      rw [this, Bool.or_false]
theorem over_rows {s m : Msg} {k : Nat} {ver : Int} (hn : ∀ i, i < 6 → m.n i < 18446744073709551616) (hfit : s.l.length + m.l.length ≤ 64) : ∀ (Q P : List Row), (∀ r ∈ Q, r ∈ ofKind k (rowsIn ver)) → (∀ r ∈ Q, errR m r = 0) → (∀ r ∈ Q, r.2.2.1 = 10 → hasL P = false) → Q.Pairwise (fun r r' => ¬ (r.2.2.1 = 10 ∧ r'.2.2.1 = 10)) →
    decF k ver (mrg s m P) (msgFs m Q) = (mrg s m (P ++ Q), 0, 0)
  | [], P, _, _, _, _ => by rw [List.append_nil]; rfl
  | r :: Q, P, h1, h2, h3, h4 => by
    obtain ⟨p1, p2⟩ := List.pairwise_cons.1 h4
    have hd := over_row (s := s) (m := m) (P := P) (h1 r (List.mem_cons_self ..)) (h2 r (List.mem_cons_self ..)) hn (h3 r (List.mem_cons_self ..)) hfit
    show decF k ver (mrg s m P) (rowFs m r ++ msgFs m Q) = _
    rw [decF_app k ver _ _ _ (by rw [hd]), hd]
    have := over_rows (s := s) hn hfit Q (P ++ [r]) (fun x hx => h1 x (List.mem_cons_of_mem _ hx)) (fun x hx => h2 x (List.mem_cons_of_mem _ hx)) (fun x hx e => by
      have e1 := h3 x (List.mem_cons_of_mem _ hx) e
      have e2 := p1 x hx
      rw [hasL_snoc, e1, Bool.false_or]
      have t2 := (of_ok (h1 r (List.mem_cons_self ..))).2.1
      exact decide_eq_false (by simp only [rTyp] at *; omega)) p2
    rw [List.append_assoc] at this
    exact this
/-- only numbers and texts: the list stays -/
theorem set_keeps {s : Msg} {t sl : Int} {x : Fld} (h : (setM s t sl x).2 = 0) (ht : t ≠ 10) : (setM s t sl x).1.l = s.l := by
  rcases set_parts h with ⟨e, -⟩ | ⟨-, -, -, -, q⟩ | ⟨-, -, -, q⟩
  · exact absurd e ht
  · rw [q]
  · rw [q]
/-- the list is too long, wherever it stands -/
theorem over_long {m : Msg} {k : Nat} {ver : Int} (hn : ∀ i, i < 6 → m.n i < 18446744073709551616) (hml : m.l.length ≤ 64) : ∀ (Q : List Row) (s : Msg), s.l.length ≤ 64 → 64 < s.l.length + m.l.length → (∀ r ∈ Q, r ∈ ofKind k (rowsIn ver)) → (∀ r ∈ Q, errR m r = 0) → hasL Q = true →
    (decF k ver s (msgFs m Q)).2.1 = 2
  | [], s, _, _, _, _, h => by simp [hasL] at h
  | r :: Q, s, hs, hlong, h1, h2, hL => by
    have hr := h1 r (List.mem_cons_self ..)
    have hra := (ofKind_sub hr).1
    obtain ⟨t1, t2, -, -⟩ := rows_ok r hra
    simp only [rTyp] at t1 t2
    have he := h2 r (List.mem_cons_self ..)
    show (decF k ver s (rowFs m r ++ msgFs m Q)).2.1 = 2
    by_cases h10 : (r.2.2.1 : Int) = 10
    · have hd : ¬ defB m r.2.2.1 r.2.2.2.1 = true := fun hd => by
        obtain ⟨-, -, e3⟩ := def_zero hd
        unfold plL at e3
        rw [if_pos h10] at e3
        rw [e3] at hlong; simp at hlong; omega
      have he2 : errM m 10 (r.2.2.2.1 : Int) = 0 := by rw [← h10]; exact he
      rw [err_list] at he2
      rw [if_neg (by omega)] at he2
      have hrow : rowFs m r = m.l.map fun x => (((r.2.1 : Nat) : Int), 2, 0, sB x, 0) := by unfold rowFs; rw [if_neg hd, if_pos h10]
      have := dec_list_long hr h10 m.l s (firstE_sz he2) hs hlong
      rw [hrow, decF_app_err _ _ _ _ _ (by rw [this]; simp), this]
    · have hL2 : hasL Q = true := by
        have e : decide (10 ≤ rTyp r) = false := decide_eq_false (by simp only [rTyp]; omega)
        have e2 : hasL (r :: Q) = (decide (10 ≤ rTyp r) || hasL Q) := by simp [hasL]
        rw [e2, e, Bool.false_or] at hL; exact hL
      have hok : ∃ s', decF k ver s (rowFs m r) = (s', 0, 0) ∧ s'.l = s.l := by
        have h := over_row (s := ⟨s.k, s.n, s.s, []⟩) (m := m) (P := []) hr he hn (fun e => by omega) (by simpa using hml)
        by_cases hd : defB m r.2.2.1 r.2.2.2.1 = true
        · exact ⟨s, by unfold rowFs; rw [if_pos hd]; rfl, rfl⟩
        · obtain ⟨x, hx⟩ : ∃ x, rowFs m r = [x] := by unfold rowFs; rw [if_neg hd, if_neg h10]; exact ⟨_, rfl⟩
          rw [hx] at h ⊢
          cases hb : belR k ver x with
          | none => exact ⟨s, decF_skip hb, rfl⟩
          | some r' =>
            obtain ⟨b1, b2, -⟩ := belR_mem hb
            have hnum := rowFs_num (m := m) (r := r) (x := x) (by rw [hx]; exact List.mem_singleton.2 rfl)
            have : r' = r := rows_uniq r' (ofKind_sub b1).1 r hra (by rw [(ofKind_sub b1).2, (ofKind_sub hr).2]) (by omega)
            subst this
            by_cases c : (setM s r'.2.2.1 r'.2.2.2.1 x).2 = 0
            · exact ⟨(setM s r'.2.2.1 r'.2.2.2.1 x).1, decF_step hb c, set_keeps c h10⟩
            · exfalso
              by_cases c2 : (setM (mrg ⟨s.k, s.n, s.s, []⟩ m []) r'.2.2.1 r'.2.2.2.1 x).2 = 0
              · refine c ?_
                rcases set_parts c2 with ⟨e, -⟩ | ⟨e, l1, l2, d, -⟩ | ⟨e, l1, l2, -⟩
                · exact absurd e h10
                · rw [set_txt e l1 l2 d]
                · rw [set_num e l1 l2]
              · rw [decF_stop hb c2] at h
                exact c2 (congrArg (·.2.1) h)
      obtain ⟨s', e1, e2⟩ := hok
      rw [decF_app k ver _ _ _ (by rw [e1]), e1]
      exact over_long hn hml Q s' (by rw [e2]; exact hs) (by rw [e2]; exact hlong) (fun x hx => h1 x (List.mem_cons_of_mem _ hx)) (fun x hx => h2 x (List.mem_cons_of_mem _ hx)) hL2
theorem of_lists (k : Nat) (ver : Int) : (ofKind k (rowsIn ver)).Pairwise (fun r r' => ¬ (r.2.2.1 = 10 ∧ r'.2.2.1 = 10)) :=
  List.Pairwise.imp_of_mem (fun {a b} ha hb hlt => by
    have e1 := ofKind_sub ha
    have e2 := ofKind_sub hb
    exact (rows_place a e1.1 b e2.1 (by rw [e1.2, e2.2]) (by omega)).1) (of_pair k ver)
/-- the fields of a message that may be -/
theorem msg_good {m : Msg} {ver : Int} (h : (chkM m (ofKind m.k (rowsIn ver))).1 = 0) (hn : ∀ i, i < 6 → m.n i < 18446744073709551616) :
    msgB m (ofKind m.k (rowsIn ver)) = bytesFs (msgFs m (ofKind m.k (rowsIn ver))) ∧ ofKind m.k (rowsIn ver) ≠ [] ∧ (∀ x ∈ msgFs m (ofKind m.k (rowsIn ver)), x.ok ∧ (putF x).2 = 0) ∧ (msgFs m (ofKind m.k (rowsIn ver))).map bareF = msgFs m (ofKind m.k (rowsIn ver)) ∧ m.l.length ≤ 64 := by
  obtain ⟨hb, -, -, -, -, hg⟩ := small_msg h hn
  obtain ⟨he, hc⟩ := chk_oks h
  refine ⟨hb, fun e => by rw [e] at h; simp [chkM] at h, fun x hx => by obtain ⟨r, -, g⟩ := hg x hx; exact ⟨g.ok, g.err⟩, ?_, ?_⟩
  · conv => rhs; rw [← List.map_id (msgFs m (ofKind m.k (rowsIn ver)))]
    exact List.map_congr_left fun x hx => by obtain ⟨r, -, g⟩ := hg x hx; exact g.bare
  · by_cases hl : hasL (ofKind m.k (rowsIn ver)) = true
    · obtain ⟨r, hr, ht⟩ := List.any_eq_true.1 hl
      simp only [decide_eq_true_eq, rTyp] at ht
      obtain ⟨-, t2, -, -⟩ := rows_ok r (ofKind_sub hr).1
      simp only [rTyp] at t2
      have e := he r hr
      have e' : errM m (r.2.2.1 : Int) (r.2.2.2.1 : Int) = 0 := e
      rw [show (r.2.2.1 : Int) = 10 by omega, err_list] at e'
      by_cases c : 64 < m.l.length
      · rw [if_pos c] at e'; simp at e'
      · omega
    · have := (clean_at hc).2.2 (by simpa using hl)
      rw [this]; simp
/-- bytes behind others -/
theorem last_law {a b : Msg} {ver : Int} (hk : a.k = b.k) (ha : (chkM a (ofKind a.k (rowsIn ver))).1 = 0) (hb : (chkM b (ofKind b.k (rowsIn ver))).1 = 0) (hna : ∀ i, i < 6 → a.n i < 18446744073709551616) (hnb : ∀ i, i < 6 → b.n i < 18446744073709551616)
    (hlen : (msgB a (ofKind a.k (rowsIn ver)) ++ msgB b (ofKind b.k (rowsIn ver))).length ≤ 8192) :
    (64 < a.l.length + b.l.length → (decM a.k ver (msgB a (ofKind a.k (rowsIn ver)) ++ msgB b (ofKind b.k (rowsIn ver)))).2.1 = 2) ∧
    (a.l.length + b.l.length ≤ 64 → (decM a.k ver (msgB a (ofKind a.k (rowsIn ver)) ++ msgB b (ofKind b.k (rowsIn ver)))).2.1 = 0 ∧
      (∀ i, i < 6 → (decM a.k ver (msgB a (ofKind a.k (rowsIn ver)) ++ msgB b (ofKind b.k (rowsIn ver)))).1.n i = if b.n i ≠ 0 then b.n i else a.n i) ∧
      (∀ i, i < 2 → (decM a.k ver (msgB a (ofKind a.k (rowsIn ver)) ++ msgB b (ofKind b.k (rowsIn ver)))).1.s i = if b.s i ≠ ⟨#[]⟩ then b.s i else a.s i) ∧
      (decM a.k ver (msgB a (ofKind a.k (rowsIn ver)) ++ msgB b (ofKind b.k (rowsIn ver)))).1.l = a.l ++ b.l) := by
  obtain ⟨a1, a2, a3, a4, a5⟩ := msg_good ha hna
  obtain ⟨b1, b2, b3, b4, b5⟩ := msg_good hb hnb
  obtain ⟨ea, ca⟩ := chk_oks ha
  obtain ⟨eb, cb⟩ := chk_oks hb
  obtain ⟨qa1, qa2, qa3⟩ := clean_at ca
  obtain ⟨qb1, qb2, qb3⟩ := clean_at cb
  rw [a1, b1, ← bytesFs_app] at hlen ⊢
  rw [← hk] at b3 b4 eb qb1 qb2 qb3 hlen ⊢
  obtain ⟨d1, d2⟩ := dec_fs (k := a.k) (ver := ver) a2 hlen (fun x hx => (List.mem_append.1 hx).elim (a3 x) (b3 x))
  rw [List.map_append, a4, b4] at d1 d2
  have hda := dec_rows (m := a) (k := a.k) (ver := ver) hna (ofKind a.k (rowsIn ver)) [] (fun r hr => hr) ea (fun _ _ _ => rfl) (of_lists _ _)
  rw [List.nil_append, clean_nil] at hda
  rw [decF_app _ _ _ _ _ (by rw [hda]), hda] at d1 d2
  have hcl : (cleanM a (ofKind a.k (rowsIn ver))).l = a.l := by
    rw [cl]; split
    · rfl
    · rename_i c; exact (qa3 (by simpa using c)).symm
  refine ⟨fun hlong => ?_, fun hfit => ?_⟩
  · rw [d2]
    refine over_long hnb b5 _ _ (by rw [hcl]; exact a5) (by rw [hcl]; exact hlong) (fun r hr => hr) eb ?_
    cases hL : hasL (ofKind a.k (rowsIn ver)) with
    | true => rfl
    | false => rw [qa3 hL, qb3 hL] at hlong; simp at hlong
  · have ho := over_rows (s := cleanM a (ofKind a.k (rowsIn ver))) (m := b) (k := a.k) (ver := ver) hnb (by rw [hcl]; exact hfit) (ofKind a.k (rowsIn ver)) [] (fun r hr => hr) eb (fun _ _ _ => rfl) (of_lists _ _)
    rw [List.nil_append, mg_nil] at ho
    rw [ho] at d1 d2
    refine ⟨d2, fun i hi => ?_, fun i hi => ?_, ?_⟩
    · rw [d1]
      show (mrg _ _ _).n i = _
      rw [mg_n, cn]
      by_cases c : hasN (ofKind a.k (rowsIn ver)) i = true
      · by_cases z : b.n i = 0
        · rw [if_neg (fun x => x.2 z), if_pos c, if_neg (fun x => x z)]
        · rw [if_pos ⟨c, z⟩, if_pos z]
      · have c' : hasN (ofKind a.k (rowsIn ver)) i = false := by simpa using c
        rw [if_neg (fun x => c x.1), if_neg c, qb1 i hi c', qa1 i hi c']
        simp
    · rw [d1]
      show (mrg _ _ _).s i = _
      rw [mg_s, cs]
      by_cases c : hasS (ofKind a.k (rowsIn ver)) i = true
      · by_cases z : b.s i = ⟨#[]⟩
        · rw [if_neg (fun x => x.2 z), if_pos c, if_neg (fun x => x z)]
        · rw [if_pos ⟨c, z⟩, if_pos z]
      · have c' : hasS (ofKind a.k (rowsIn ver)) i = false := by simpa using c
        rw [if_neg (fun x => c x.1), if_neg c, qb2 i hi c', qa2 i hi c']
        simp
    · rw [d1]
      show (mrg _ _ _).l = _
      rw [mg_l, hcl]
      split
      · rfl
      · rename_i c; rw [qb3 (by simpa using c), List.append_nil]
end Go.Proofs.YtbjoohafgkodcaaGreat
namespace Go.Proofs.YtbjoohafgkodcaaGreat
open Go Go.RowKit Go.Shelf

/-- how many bytes are alike ahead -/
def cpl : List UInt8 → List UInt8 → Nat
  | x :: a, y :: b => if x = y then cpl a b + 1 else 0
  | _, _ => 0
theorem cpl_self : ∀ a : List UInt8, cpl a a = a.length
  | [] => rfl
  | x :: a => by unfold cpl; rw [if_pos rfl, cpl_self a]; rfl
theorem cpl_le : ∀ a b : List UInt8, cpl a b ≤ a.length ∧ cpl a b ≤ b.length
  | [], _ => ⟨by simp [cpl], by simp [cpl]⟩
  | _ :: _, [] => ⟨by simp [cpl], by simp [cpl]⟩
  | x :: a, y :: b => by
    have := cpl_le a b
    unfold cpl
    split <;> simp <;> omega
theorem cpl_all : ∀ a b : List UInt8, cpl a b = a.length → cpl a b = b.length → a = b
  | [], [], _, _ => rfl
  | [], _ :: _, _, h => by simp [cpl] at h
  | _ :: _, [], h, _ => by simp [cpl] at h
  | x :: a, y :: b, h1, h2 => by
    unfold cpl at h1 h2
    split at h1
    · rename_i e
      rw [if_pos e] at h2
      subst e
      rw [cpl_all a b (by simpa using h1) (by simpa using h2)]
    · simp at h1
theorem cpl_at : ∀ (k : Nat) (a b : List UInt8), k ≤ a.length → k ≤ b.length → a.take k = b.take k → (k = a.length ∨ k = b.length ∨ a[k]? ≠ b[k]?) → cpl a b = k
  | 0, a, b, _, _, _, h => by
    cases a with
    | nil => simp [cpl]
    | cons x a =>
      cases b with
      | nil => simp [cpl]
      | cons y b =>
        unfold cpl
        rw [if_neg]
        rintro rfl
        rcases h with h | h | h
        · simp at h
        · simp at h
        · simp at h
  | k + 1, [], _, h, _, _, _ => by simp at h
  | k + 1, _ :: _, [], _, h, _, _ => by simp at h
  | k + 1, x :: a, y :: b, h1, h2, h3, h4 => by
    simp only [List.take_succ_cons, List.cons.injEq] at h3
    unfold cpl
    rw [if_pos h3.1, cpl_at k a b (by simpa using h1) (by simpa using h2) h3.2 (by simpa using h4)]
/-- the message of bytes that are its own, or what is wrong, and where -/
def strM (k : Nat) (ver : Int) (b : List UInt8) : Msg × Nat × Int :=
  if (decM k ver b).2.1 ≠ 0 then (mZ, (decM k ver b).2)
  else if b = msgB (decM k ver b).1 (ofKind k (rowsIn ver)) then ((decM k ver b).1, 0, 0) else (mZ, 3, (cpl b (msgB (decM k ver b).1 (ofKind k (rowsIn ver))) : Nat))
theorem same_trans {a b c : Msg} (h : sameB a b = true) (g : sameB b c = true) : sameB a c = true := by
  obtain ⟨h1, h2, h3, h4⟩ := sameB_iff.1 h
  obtain ⟨g1, g2, g3, g4⟩ := sameB_iff.1 g
  exact sameB_iff.2 ⟨h1.trans g1, fun i hi => (h2 i hi).trans (g2 i hi), fun i hi => (h3 i hi).trans (g3 i hi), h4.trans g4⟩
theorem same_back {a b : Msg} (h : sameB a b = true) : sameB b a = true := by rw [sameB_symm]; exact h
theorem same_self (a : Msg) : sameB a a = true := sameB_iff.2 ⟨rfl, fun _ _ => rfl, fun _ _ => rfl, rfl⟩
theorem msgFs_same {a b : Msg} (h : sameB a b = true) (L : List Row) : msgFs a L = msgFs b L := by
  unfold msgFs; exact flatMap_same fun r _ => same_fR h r
theorem msgB_eq {m : Msg} {L : List Row} (h : (chkM m L).1 = 0) : msgB m L = bytesFs (msgFs m L) := by unfold msgB; rw [if_neg (by omega), msgB_fs]
theorem msgB_same {a b : Msg} {L : List Row} (hs : sameB a b = true) (ha : (chkM a L).1 = 0) (hb : (chkM b L).1 = 0) : msgB a L = msgB b L := by
  rw [msgB_eq ha, msgB_eq hb, msgFs_same hs]
/-- a message that may be is read as it was written -/
theorem str_own {m : Msg} {ver : Int} (h : (chkM m (ofKind m.k (rowsIn ver))).1 = 0) (hn : ∀ i, i < 6 → m.n i < 18446744073709551616) :
    strM m.k ver (msgB m (ofKind m.k (rowsIn ver))) = (cleanM m (ofKind m.k (rowsIn ver)), 0, 0) ∧ sameB (cleanM m (ofKind m.k (rowsIn ver))) m = true := by
  obtain ⟨h1, -, h3⟩ := dec_own h hn
  have hm := (dec_may (k := m.k) (ver := ver) (b := msgB m (ofKind m.k (rowsIn ver))) (by rw [h1])).2
  rw [h1] at hm
  refine ⟨?_, h3⟩
  unfold strM
  rw [h1, if_neg (by simp), if_pos]
  exact (msgB_same h3 (by rw [hm]) h).symm
theorem str_err {k : Nat} {ver : Int} {b : List UInt8} (h : (decM k ver b).2.1 ≠ 0) : strM k ver b = (mZ, (decM k ver b).2) := by unfold strM; rw [if_pos h]
theorem str_ok {k : Nat} {ver : Int} {b : List UInt8} (h : (strM k ver b).2.1 = 0) : (decM k ver b).2.1 = 0 ∧ b = msgB (decM k ver b).1 (ofKind k (rowsIn ver)) ∧ strM k ver b = ((decM k ver b).1, 0, 0) := by
  by_cases h1 : (decM k ver b).2.1 ≠ 0
  · rw [str_err h1] at h; exact absurd h h1
  · unfold strM at h ⊢
    rw [if_neg h1] at h ⊢
    by_cases h2 : b = msgB (decM k ver b).1 (ofKind k (rowsIn ver))
    · rw [if_pos h2]; exact ⟨by omega, h2, rfl⟩
    · rw [if_neg h2] at h; simp at h
theorem str_iff {k : Nat} {ver : Int} {b : List UInt8} (h : (decM k ver b).2.1 = 0) : (strM k ver b = ((decM k ver b).1, 0, 0) ∧ b = msgB (decM k ver b).1 (ofKind k (rowsIn ver))) ∨ ((strM k ver b).1 = mZ ∧ (strM k ver b).2.1 = 3 ∧ b ≠ msgB (decM k ver b).1 (ofKind k (rowsIn ver))) := by
  unfold strM
  rw [if_neg (by omega)]
  by_cases h2 : b = msgB (decM k ver b).1 (ofKind k (rowsIn ver))
  · rw [if_pos h2]; exact .inl ⟨rfl, h2⟩
  · rw [if_neg h2]; exact .inr ⟨rfl, rfl, h2⟩
/-- what is known of a message that was read -/
theorem dec_good {k : Nat} {ver : Int} {b : List UInt8} (h : (decM k ver b).2.1 = 0) : (decM k ver b).1.k = k ∧ (chkM (decM k ver b).1 (ofKind k (rowsIn ver))) = (0, 0) ∧ ∀ i, i < 6 → (decM k ver b).1.n i < 18446744073709551616 := by
  obtain ⟨h1, h2⟩ := dec_may h
  exact ⟨h1.kind, h2, h1.lt⟩
/-- what is fixed is read strictly -/
theorem fix_law {k : Nat} {ver : Int} {b : List UInt8} (h : (decM k ver b).2.1 = 0) :
    (strM k ver (msgB (decM k ver b).1 (ofKind k (rowsIn ver)))).2 = (0, 0) ∧ sameB (strM k ver (msgB (decM k ver b).1 (ofKind k (rowsIn ver)))).1 (decM k ver b).1 = true := by
  obtain ⟨h1, h2, h3⟩ := dec_good h
  have h4 := str_own (m := (decM k ver b).1) (ver := ver) (by rw [h1, h2]) h3
  rw [h1] at h4
  rw [h4.1]
  exact ⟨rfl, h4.2⟩
/-- the kinds and versions -/
def kvs : List (Nat × Nat) := (List.range 10).flatMap fun i => (List.range 3).map fun j => (i + 1, j + 1)
def anyM (b : List UInt8) : Msg × Nat × Bool := match kvs.find? (fun p => (strM p.1 (p.2 : Int) b).2.1 == 0) with
  | some p => ((strM p.1 (p.2 : Int) b).1, p.2, true)
  | none => (mZ, 0, false)
/-! ## other versions -/
theorem decF_filter (k : Nat) (ver : Int) : ∀ (l : List Fld) (s : Msg), decF k ver s l = decF k ver s (l.filter fun x => (belR k ver x).isSome)
  | [], _ => rfl
  | x :: l, s => by
    cases hb : belR k ver x with
    | none => rw [decF_skip hb, List.filter_cons_of_neg (by simp [hb])]; exact decF_filter k ver l s
    | some r =>
      rw [List.filter_cons_of_pos (by simp [hb])]
      by_cases c : (setM s r.2.2.1 r.2.2.2.1 x).2 = 0
      · rw [decF_step hb c, decF_step hb c]; exact decF_filter k ver l _
      · rw [decF_stop hb c, decF_stop hb c]
/-- the fields of some rows -/
theorem msgFs_rows {m : Msg} (p : Fld → Bool) (q : Row → Bool) : ∀ (L : List Row), (∀ r ∈ L, ∀ x ∈ rowFs m r, p x = q r) → (msgFs m L).filter p = msgFs m (L.filter q)
  | [], _ => rfl
  | r :: L, h => by
    show (rowFs m r ++ msgFs m L).filter p = _
    rw [List.filter_append, msgFs_rows p q L fun x hx => h x (List.mem_cons_of_mem _ hx)]
    have h0 := h r (List.mem_cons_self ..)
    cases hq : q r with
    | true =>
      rw [List.filter_cons_of_pos hq, List.filter_eq_self.2 fun x hx => by rw [h0 x hx, hq]]
      rfl
    | false =>
      rw [List.filter_cons_of_neg (by simp [hq]), List.filter_eq_nil_iff.2 fun x hx => by rw [h0 x hx, hq]; simp]
      rfl
theorem rowFs_wire {m : Msg} {r : Row} {x : Fld} (hr : r ∈ rowsAll) (h : x ∈ rowFs m r) : (fWire x : Int) = (wireV r.2.2.1).1 := by
  obtain ⟨t1, t2, -, -⟩ := rows_ok r hr
  simp only [rTyp] at t1 t2
  obtain ⟨w1, w2, -, -⟩ := rwireV_eq (t := (r.2.2.1 : Int)) (by omega) (by omega)
  unfold rowFs at h
  split at h
  · cases h
  split at h
  · rename_i h10
    obtain ⟨s, -, rfl⟩ := List.mem_map.1 h
    rw [h10]; rfl
  · obtain rfl := List.mem_singleton.1 h
    show (((rwireV (r.2.2.1 : Int)).toNat : Nat) : Int) = _
    rw [w1]; exact w2.symm
theorem bel_row {m : Msg} {k : Nat} {ver other : Int} {r : Row} (hr : r ∈ ofKind k (rowsIn ver)) {x : Fld} (h : x ∈ rowFs m r) : (belR k other x).isSome = decide (r ∈ ofKind k (rowsIn other)) := by
  by_cases c : r ∈ ofKind k (rowsIn other)
  · rw [belR_good c (rowFs_num h) (rowFs_wire (ofKind_sub hr).1 h), decide_eq_true c]; rfl
  · rw [decide_eq_false c]
    cases hb : belR k other x with
    | none => rfl
    | some r' =>
      exfalso
      obtain ⟨b1, b2, -⟩ := belR_mem hb
      have := rowFs_num h
      have e : r' = r := rows_uniq r' (ofKind_sub b1).1 r (ofKind_sub hr).1 (by rw [(ofKind_sub b1).2, (ofKind_sub hr).2]) (by omega)
      exact c (e ▸ b1)
theorem hasN_iff {L : List Row} {i : Nat} : hasN L i = true ↔ ∃ r ∈ L, r.2.2.1 ≤ 6 ∧ r.2.2.2.1 = i := by
  unfold hasN; rw [List.any_eq_true]; simp only [Bool.and_eq_true, decide_eq_true_eq, beq_iff_eq, rTyp, rSlot]
theorem hasS_iff {L : List Row} {i : Nat} : hasS L i = true ↔ ∃ r ∈ L, 7 ≤ r.2.2.1 ∧ r.2.2.1 ≤ 9 ∧ r.2.2.2.1 = i := by
  unfold hasS; rw [List.any_eq_true]; simp only [Bool.and_eq_true, decide_eq_true_eq, beq_iff_eq, rTyp, rSlot, and_assoc]
theorem hasL_iff {L : List Row} : hasL L = true ↔ ∃ r ∈ L, 10 ≤ r.2.2.1 := by
  unfold hasL; rw [List.any_eq_true]; simp only [decide_eq_true_eq, rTyp]
theorem same_row {k : Nat} {ver other : Int} {r r' : Row} (hr : r ∈ ofKind k (rowsIn ver)) (hr' : r' ∈ ofKind k (rowsIn other)) (h : (r.2.2.1 ≤ 6 ∧ r'.2.2.1 ≤ 6 ∧ r.2.2.2.1 = r'.2.2.2.1) ∨ (7 ≤ r.2.2.1 ∧ r.2.2.1 ≤ 9 ∧ 7 ≤ r'.2.2.1 ∧ r'.2.2.1 ≤ 9 ∧ r.2.2.2.1 = r'.2.2.2.1) ∨ (10 ≤ r.2.2.1 ∧ 10 ≤ r'.2.2.1)) : r = r' := by
  have e1 := ofKind_sub hr
  have e2 := ofKind_sub hr'
  refine Classical.byContradiction fun c => ?_
  have t1 := (of_ok hr).2.1
  have t2 := (of_ok hr').2.1
  simp only [rTyp] at t1 t2
  obtain ⟨p1, p2, p3⟩ := rows_place r e1.1 r' e2.1 (by rw [e1.2, e2.2]) (fun e => c (rows_uniq r e1.1 r' e2.1 (by rw [e1.2, e2.2]) e))
  rcases h with h | h | h
  · exact p3 h
  · exact p2 ⟨by omega, by omega, by omega, by omega, h.2.2.2.2⟩
  · exact p1 ⟨by omega, by omega⟩
/-- what two versions both have of a message is what the other one has of it -/
theorem clean_both {m : Msg} {ver other : Int} (hc : sameB (cleanM m (ofKind m.k (rowsIn ver))) m = true) :
    sameB (cleanM m ((ofKind m.k (rowsIn ver)).filter fun r => decide (r ∈ ofKind m.k (rowsIn other)))) (cleanM m (ofKind m.k (rowsIn other))) = true := by
  obtain ⟨q1, q2, q3⟩ := clean_at hc
  refine sameB_iff.2 ⟨rfl, fun i hi => ?_, fun i hi => ?_, ?_⟩
  · rw [cn, cn]
    by_cases a : hasN ((ofKind m.k (rowsIn ver)).filter fun r => decide (r ∈ ofKind m.k (rowsIn other))) i = true
    · obtain ⟨r, hr, h1, h2⟩ := hasN_iff.1 a
      have hr2 := of_decide_eq_true (List.mem_filter.1 hr).2
      rw [if_pos a, if_pos (hasN_iff.2 ⟨r, hr2, h1, h2⟩)]
    · rw [if_neg a]
      by_cases b : hasN (ofKind m.k (rowsIn other)) i = true
      · rw [if_pos b]
        symm
        apply q1 i hi
        cases e : hasN (ofKind m.k (rowsIn ver)) i with
        | false => rfl
        | true =>
          exfalso
          obtain ⟨r, hr, h1, h2⟩ := hasN_iff.1 e
          obtain ⟨r', hr', h1', h2'⟩ := hasN_iff.1 b
          have := same_row hr hr' (.inl ⟨h1, h1', by omega⟩)
          subst this
          exact a (hasN_iff.2 ⟨r, List.mem_filter.2 ⟨hr, decide_eq_true hr'⟩, h1, h2⟩)
      · rw [if_neg b]
  · rw [cs, cs]
    by_cases a : hasS ((ofKind m.k (rowsIn ver)).filter fun r => decide (r ∈ ofKind m.k (rowsIn other))) i = true
    · obtain ⟨r, hr, h1, h2, h3⟩ := hasS_iff.1 a
      have hr2 := of_decide_eq_true (List.mem_filter.1 hr).2
      rw [if_pos a, if_pos (hasS_iff.2 ⟨r, hr2, h1, h2, h3⟩)]
    · rw [if_neg a]
      by_cases b : hasS (ofKind m.k (rowsIn other)) i = true
      · rw [if_pos b]
        symm
        apply q2 i hi
        cases e : hasS (ofKind m.k (rowsIn ver)) i with
        | false => rfl
        | true =>
          exfalso
          obtain ⟨r, hr, h1, h2, h3⟩ := hasS_iff.1 e
          obtain ⟨r', hr', h1', h2', h3'⟩ := hasS_iff.1 b
          have := same_row hr hr' (.inr (.inl ⟨h1, h2, h1', h2', by omega⟩))
          subst this
          exact a (hasS_iff.2 ⟨r, List.mem_filter.2 ⟨hr, decide_eq_true hr'⟩, h1, h2, h3⟩)
      · rw [if_neg b]
  · rw [cl, cl]
    by_cases a : hasL ((ofKind m.k (rowsIn ver)).filter fun r => decide (r ∈ ofKind m.k (rowsIn other))) = true
    · obtain ⟨r, hr, h1⟩ := hasL_iff.1 a
      have hr2 := of_decide_eq_true (List.mem_filter.1 hr).2
      rw [if_pos a, if_pos (hasL_iff.2 ⟨r, hr2, h1⟩)]
    · rw [if_neg a]
      by_cases b : hasL (ofKind m.k (rowsIn other)) = true
      · rw [if_pos b]
        symm
        apply q3
        cases e : hasL (ofKind m.k (rowsIn ver)) with
        | false => rfl
        | true =>
          exfalso
          obtain ⟨r, hr, h1⟩ := hasL_iff.1 e
          obtain ⟨r', hr', h1'⟩ := hasL_iff.1 b
          have := same_row hr hr' (.inr (.inr ⟨h1, h1'⟩))
          subst this
          exact a (hasL_iff.2 ⟨r, List.mem_filter.2 ⟨hr, decide_eq_true hr'⟩, h1⟩)
      · rw [if_neg b]
/-- rows of which a message has nothing add nothing -/
theorem msgFs_drop {m : Msg} (q : Row → Bool) : ∀ (L : List Row), (∀ r ∈ L, q r = false → rowFs m r = []) → msgFs m L = msgFs m (L.filter q)
  | [], _ => rfl
  | r :: L, h => by
    have ih := msgFs_drop q L fun x hx => h x (List.mem_cons_of_mem _ hx)
    show rowFs m r ++ msgFs m L = _
    cases hq : q r with
    | true => rw [List.filter_cons_of_pos hq, ih]; rfl
    | false => rw [List.filter_cons_of_neg (by simp [hq]), h r (List.mem_cons_self ..) hq, ih]; rfl
theorem rowsIn_sub {ver : Int} {r : Row} : r ∈ rowsIn ver ↔ 1 ≤ ver ∧ ver ≤ 3 ∧ r ∈ rowsAll ∧ (r.2.2.2.2 : Int) ≤ ver := by
  unfold rowsIn
  split
  · constructor
    · intro h; cases h
    · intro h; omega
  · rw [List.mem_filter]; unfold inV; rw [decide_eq_true_eq]
    constructor
    · rintro ⟨h1, h2⟩; exact ⟨by omega, by omega, h1, h2⟩
    · rintro ⟨-, -, h1, h2⟩; exact ⟨h1, h2⟩
/-- rows that both versions have, in the order of either -/
theorem both_rows (k : Nat) {ver other : Int} (hv : 1 ≤ ver ∧ ver ≤ 3) (ho : 1 ≤ other ∧ other ≤ 3) :
    (ofKind k (rowsIn ver)).filter (fun r => decide (r ∈ ofKind k (rowsIn other))) = (ofKind k (rowsIn other)).filter (fun r => decide (r ∈ ofKind k (rowsIn ver))) := by
  have e : ∀ v : Int, 1 ≤ v → v ≤ 3 → ofKind k (rowsIn v) = rowsAll.filter fun r => r.1 == k && inV v r := fun v h1 h3 => by
    unfold ofKind rowsIn; rw [if_neg (by omega), List.filter_filter]
  have hm : ∀ (v : Int) (r : Row), 1 ≤ v → v ≤ 3 → r ∈ rowsAll → decide (r ∈ rowsAll.filter fun r => r.1 == k && inV v r) = (r.1 == k && inV v r) := fun v r h1 h3 hr => by
    rw [Bool.eq_iff_iff, decide_eq_true_eq, List.mem_filter]
    exact ⟨fun h => h.2, fun h => ⟨hr, h⟩⟩
  rw [e ver hv.1 hv.2, e other ho.1 ho.2, List.filter_filter, List.filter_filter]
  refine List.filter_congr fun r hr => ?_
  rw [hm ver r hv.1 hv.2 hr, hm other r ho.1 ho.2 hr, Bool.and_comm]
theorem clean_row {m : Msg} {L : List Row} {r : Row} (hr : r ∈ L) : plN (cleanM m L) r.2.2.1 r.2.2.2.1 = plN m r.2.2.1 r.2.2.2.1 ∧ plS (cleanM m L) r.2.2.1 r.2.2.2.1 = plS m r.2.2.1 r.2.2.2.1 ∧ plL (cleanM m L) r.2.2.1 = plL m r.2.2.1 := by
  refine ⟨?_, ?_, ?_⟩
  · unfold plN
    split
    · rename_i h
      have := numB_iff.1 h.1
      rw [cn, if_pos (hasN_iff.2 ⟨r, hr, by omega, by omega⟩)]
    · rfl
  · unfold plS
    split
    · rename_i h
      have := txtB_iff.1 h.1
      rw [cs, if_pos (hasS_iff.2 ⟨r, hr, by omega, by omega, by omega⟩)]
    · rfl
  · unfold plL
    split
    · rw [cl, if_pos (hasL_iff.2 ⟨r, hr, by omega⟩)]
    · rfl
/-- a row that a version does not have: a message that is clean there has nothing of it -/
theorem clean_none {m : Msg} {k : Nat} {ver other : Int} {P : List Row} (hP : ∀ r ∈ P, r ∈ ofKind k (rowsIn ver)) {r : Row} (hr : r ∈ ofKind k (rowsIn other)) (hn : r ∉ P) : rowFs (cleanM m P) r = [] := by
  obtain ⟨t1, t2, t3, t4⟩ := of_ok hr
  simp only [rTyp, rSlot] at t1 t2 t3 t4
  have hd : defB (cleanM m P) r.2.2.1 r.2.2.2.1 = true := by
    by_cases h10 : r.2.2.1 = 10
    · have e : (r.2.2.1 : Int) = 10 := by omega
      rw [e, def_list, cl, if_neg]
      · rfl
      · intro h
        obtain ⟨r', hr', h'⟩ := hasL_iff.1 h
        exact hn (same_row hr (hP r' hr') (.inr (.inr ⟨by omega, h'⟩)) ▸ hr')
    by_cases h6 : r.2.2.1 ≤ 6
    · rw [def_num (numB_iff.2 (by omega)) (by omega) (by have := t3 h6; omega), cn, if_neg]
      · rfl
      · intro h
        obtain ⟨r', hr', h1, h2⟩ := hasN_iff.1 h
        exact hn (same_row hr (hP r' hr') (.inl ⟨h6, h1, by omega⟩) ▸ hr')
    · rw [def_txt (txtB_iff.2 (by omega)) (by omega) (by have := t4 (by omega) (by omega); omega), cs, if_neg]
      · simp [ByteArray.toList_eq]
      · intro h
        obtain ⟨r', hr', h1, h2, h3⟩ := hasS_iff.1 h
        exact hn (same_row hr (hP r' hr') (.inr (.inl ⟨by omega, by omega, h1, h2, by omega⟩)) ▸ hr')
  unfold rowFs; rw [if_pos hd]
/-- read in another version -/
theorem vers_law {m : Msg} {ver other : Int} (h : (chkM m (ofKind m.k (rowsIn ver))).1 = 0) (hn : ∀ i, i < 6 → m.n i < 18446744073709551616) (ho : 1 ≤ other ∧ other ≤ 3) (hne : ofKind m.k (rowsIn other) ≠ []) :
    (decM m.k other (msgB m (ofKind m.k (rowsIn ver)))).2.1 = 0 ∧ sameB (decM m.k other (msgB m (ofKind m.k (rowsIn ver)))).1 (cleanM m (ofKind m.k (rowsIn other))) = true ∧
    (ver ≤ other → (strM m.k other (msgB m (ofKind m.k (rowsIn ver)))).2.1 = 0 ∧ sameB (strM m.k other (msgB m (ofKind m.k (rowsIn ver)))).1 m = true) ∧
    ((strM m.k other (msgB m (ofKind m.k (rowsIn ver)))).2.1 = 0 ↔ (unkM m.k other (msgB m (ofKind m.k (rowsIn ver)))).1 = []) ∧
    ((strM m.k other (msgB m (ofKind m.k (rowsIn ver)))).2.1 = 0 ∨ (strM m.k other (msgB m (ofKind m.k (rowsIn ver)))).2.1 = 3) := by
  obtain ⟨a1, a2, a3, a4, a5⟩ := msg_good h hn
  obtain ⟨ea, ca⟩ := chk_oks h
  have hv : 1 ≤ ver ∧ ver ≤ 3 := by
    obtain ⟨r, hr⟩ := List.exists_mem_of_ne_nil _ a2
    have hr2 : r ∈ rowsIn ver := (List.mem_filter.1 hr).1
    have := rowsIn_sub.1 hr2
    exact ⟨this.1, this.2.1⟩
  have h8 : (msgB m (ofKind m.k (rowsIn ver))).length ≤ 8192 := (small_msg h hn).2.1
  obtain ⟨Q, hQ⟩ : ∃ Q, Q = (ofKind m.k (rowsIn ver)).filter fun r => decide (r ∈ ofKind m.k (rowsIn other)) := ⟨_, rfl⟩
  obtain ⟨d1, d2⟩ := dec_fs (k := m.k) (ver := other) (xs := msgFs m (ofKind m.k (rowsIn ver))) hne (by rw [← a1]; exact h8) a3
  have hfl : (msgFs m (ofKind m.k (rowsIn ver))).filter (fun x => (belR m.k other x).isSome) = msgFs m Q := by
    rw [hQ]; exact msgFs_rows _ _ _ fun r hr x hx => bel_row hr hx
  rw [a4, decF_filter, hfl] at d1 d2
  have hQ1 : ∀ r ∈ Q, r ∈ ofKind m.k (rowsIn ver) := fun r hr => by rw [hQ] at hr; exact (List.mem_filter.1 hr).1
  have hQ2 : ∀ r ∈ Q, r ∈ ofKind m.k (rowsIn other) := fun r hr => by rw [hQ] at hr; exact of_decide_eq_true (List.mem_filter.1 hr).2
  have hd := dec_rows (m := m) (k := m.k) (ver := other) hn Q [] hQ2 (fun r hr => ea r (hQ1 r hr)) (fun _ _ _ => rfl) (by rw [hQ]; exact List.Pairwise.sublist List.filter_sublist (of_lists m.k ver))
  rw [List.nil_append, clean_nil] at hd
  rw [hd] at d1 d2
  simp only at d1 d2
  rw [← a1] at d1 d2
  obtain ⟨g1, g2, g3⟩ := dec_good d2
  have hown : msgB (decM m.k other (msgB m (ofKind m.k (rowsIn ver)))).1 (ofKind m.k (rowsIn other)) = bytesFs (msgFs m Q) := by
    rw [msgB_eq (by rw [g2]), d1]
    congr 1
    have e1 : msgFs (cleanM m Q) (ofKind m.k (rowsIn other)) = msgFs (cleanM m Q) Q := by
      have hQ' := hQ
      rw [both_rows m.k hv ho] at hQ'
      have h9 := msgFs_drop (m := cleanM m Q) (fun r => decide (r ∈ ofKind m.k (rowsIn ver))) (ofKind m.k (rowsIn other)) (fun r hr hq => clean_none hQ1 hr fun hm => of_decide_eq_false hq (hQ1 r hm))
      rw [← hQ'] at h9
      exact h9
    rw [e1]
    unfold msgFs
    refine flatMap_same fun r hr => ?_
    obtain ⟨c1, c2, c3⟩ := clean_row (m := m) hr
    exact rowFs_place c1 c2 c3
  have hunk : (unkM m.k other (msgB m (ofKind m.k (rowsIn ver)))).1 = [] ↔ (msgFs m (ofKind m.k (rowsIn ver))).filter (fun x => !(belR m.k other x).isSome) = [] := by
    unfold unkM
    rw [if_neg (by omega)]
    show List.filter _ _ = [] ↔ _
    have hst := (read_fs a3).2
    rw [a4, ← a1] at hst
    rw [List.filter_eq_nil_iff, List.filter_eq_nil_iff]
    have hb : ∀ x : Fld, belR m.k other (stF x) = belR m.k other x := fun x => rfl
    constructor
    · intro hh x hx
      have : stF x ∈ (msgFs m (ofKind m.k (rowsIn ver))).map stF := List.mem_map_of_mem hx
      rw [← hst] at this
      obtain ⟨y, hy, e⟩ := List.mem_map.1 this
      have := hh y hy
      rw [← hb x, ← e, hb y]
      cases hq : belR m.k other y <;> simp_all
    · intro hh x hx
      have : stF x ∈ (fieldsR (msgB m (ofKind m.k (rowsIn ver)))).1.map stF := List.mem_map_of_mem hx
      rw [hst] at this
      obtain ⟨y, hy, e⟩ := List.mem_map.1 this
      have := hh y hy
      rw [← hb x, ← e, hb y]
      cases hq : belR m.k other y <;> simp_all
  have hlen := bytesFs_split (fun x => (belR m.k other x).isSome) (msgFs m (ofKind m.k (rowsIn ver)))
  rw [hfl, ← a1] at hlen
  have hiff : msgB m (ofKind m.k (rowsIn ver)) = bytesFs (msgFs m Q) ↔ (msgFs m (ofKind m.k (rowsIn ver))).filter (fun x => !(belR m.k other x).isSome) = [] := by
    constructor
    · intro e
      rw [e] at hlen
      refine Classical.byContradiction fun c => ?_
      have := bytesFs_pos (l := (msgFs m (ofKind m.k (rowsIn ver))).filter (fun x => !(belR m.k other x).isSome)) (fun x hx => (a3 x (List.mem_filter.1 hx).1).2) c
      omega
    · intro e
      rw [a1, ← hfl]
      congr 1
      symm
      rw [List.filter_eq_self]
      intro x hx
      have := List.filter_eq_nil_iff.1 e x hx
      cases hq : belR m.k other x <;> simp_all
  have hcl : sameB (decM m.k other (msgB m (ofKind m.k (rowsIn ver)))).1 (cleanM m (ofKind m.k (rowsIn other))) = true := by
    rw [d1, hQ]; exact clean_both ca
  have hsi := str_iff d2
  rw [hown] at hsi
  refine ⟨d2, hcl, fun hle => ?_, ?_, ?_⟩
  · have hall : (msgFs m (ofKind m.k (rowsIn ver))).filter (fun x => !(belR m.k other x).isSome) = [] := by
      rw [List.filter_eq_nil_iff]
      intro x hx
      obtain ⟨r, hr, hxr⟩ := List.mem_flatMap.1 hx
      rw [bel_row hr hxr, decide_eq_true]
      · simp
      · have h1 := List.mem_filter.1 hr
        have h2 := rowsIn_sub.1 h1.1
        exact List.mem_filter.2 ⟨rowsIn_sub.2 ⟨ho.1, ho.2, h2.2.2.1, by omega⟩, h1.2⟩
    rcases hsi with ⟨s1, s2⟩ | ⟨s1, s2, s3⟩
    · rw [s1]
      refine ⟨rfl, ?_⟩
      refine same_trans hcl ?_
      refine same_trans ?_ ca
      have : ofKind m.k (rowsIn ver) = Q := by
        rw [hQ]; symm; rw [List.filter_eq_self]
        intro r hr
        have h1 := List.mem_filter.1 hr
        have h2 := rowsIn_sub.1 h1.1
        exact decide_eq_true (List.mem_filter.2 ⟨rowsIn_sub.2 ⟨ho.1, ho.2, h2.2.2.1, by omega⟩, h1.2⟩)
      rw [this]
      have e := clean_both (other := other) ca
      rw [← hQ] at e
      exact same_back e
    · exact absurd (hiff.2 hall) s3
  · rw [hunk, ← hiff]
    rcases hsi with ⟨s1, s2⟩ | ⟨s1, s2, s3⟩
    · rw [s1]; exact ⟨fun _ => s2, fun _ => rfl⟩
    · rw [s2]; exact ⟨fun e => by simp at e, fun e => absurd e s3⟩
  · rcases hsi with ⟨s1, s2⟩ | ⟨s1, s2, s3⟩
    · rw [s1]; exact .inl rfl
    · exact .inr s2
theorem hasS_iff' (l : List Row) (i : Nat) : hasS l i = true ↔ ∃ r ∈ l, 7 ≤ rTyp r ∧ rTyp r ≤ 9 ∧ rSlot r = i := by
  unfold hasS; simp [List.any_eq_true, and_assoc]
theorem hasL_iff' (l : List Row) : hasL l = true ↔ ∃ r ∈ l, 10 ≤ rTyp r := by
  unfold hasL; simp [List.any_eq_true]
theorem txtB_nat' (t : Nat) : txtB (t : Int) = true ↔ 7 ≤ t ∧ t ≤ 9 := by unfold txtB; simp; omega
theorem firstE0 {most : Int} {l : List ByteArray} (h : firstE most l = 0) : ∀ s ∈ l, chkV s most = 0 := by
  induction l with
  | nil => intro s hs; cases hs
  | cons x l ih =>
    unfold firstE at h
    intro s hs
    by_cases hx : chkV x most = 0
    · rw [if_pos hx] at h
      rcases List.mem_cons.1 hs with rfl | hs
      · exact hx
      · exact ih h s hs
    · rw [if_neg hx] at h
      exact absurd h hx
theorem mostV_le (t : Int) : mostV t ≤ 1000000 := by
  unfold mostV
  repeat' split
  all_goals omega
theorem chk_okE {m : Msg} {ver : Int} (h : (chkM m (ofKind m.k (rowsIn ver))).1 = 0) (hn : ∀ i, i < 6 → m.n i < 18446744073709551616) : okE m := by
  obtain ⟨he, hs⟩ := chk_oks h
  obtain ⟨-, -, es, el⟩ := sameB_iff.1 hs
  have key : hasL (ofKind m.k (rowsIn ver)) = true → (∀ s ∈ m.l, s.size ≤ 1000000) ∧ m.l.length ≤ 1000 := fun hL => by
    obtain ⟨r, hr, h10⟩ := (hasL_iff' _).1 hL
    have e10 : rTyp r = 10 := by have := rows_ok r (ofKind_sub hr).1; omega
    have h' := he r hr
    unfold errR errM at h'
    rw [e10, if_neg (by omega), if_neg (by decide)] at h'
    have hp : plL m ((10 : Nat) : Int) = m.l := rfl
    rw [hp] at h'
    by_cases hl : 64 < m.l.length
    · rw [if_pos hl] at h'; simp at h'
    rw [if_neg hl] at h'
    exact ⟨fun s hs => by have h1 := chkV_sz (firstE0 h' s hs); have h2 := mostV_le ((10 : Nat) : Int); omega, by omega⟩
  have ekl : (if hasL (ofKind m.k (rowsIn ver)) = true then m.l else []) = m.l := el
  refine ⟨fun i hi => ?_, ?_, ?_, hn⟩
  · have e : (if hasS (ofKind m.k (rowsIn ver)) i = true then m.s i else ⟨#[]⟩) = m.s i := es i hi
    by_cases hS : hasS (ofKind m.k (rowsIn ver)) i = true
    · obtain ⟨r, hr, h7, h9, hsl⟩ := (hasS_iff' _ _).1 hS
      have h' := he r hr
      have hx : txtB (rTyp r : Int) = true := (txtB_nat' _).2 ⟨h7, h9⟩
      unfold errR errM at h'
      rw [if_neg (by omega), if_pos hx, hsl] at h'
      have h1 := chkV_sz h'
      have h2 := mostV_le (rTyp r : Int)
      have h3 : plS m (rTyp r : Int) (i : Int) = m.s i := by unfold plS; rw [if_pos ⟨hx, by omega, by omega⟩]; simp
      rw [h3] at h1
      omega
    · rw [if_neg hS] at e
      rw [← e]
      exact Nat.zero_le _
  · by_cases hL : hasL (ofKind m.k (rowsIn ver)) = true
    · exact (key hL).1
    · rw [if_neg hL] at ekl
      rw [← ekl]
      intro s hs
      cases hs
  · by_cases hL : hasL (ofKind m.k (rowsIn ver)) = true
    · exact (key hL).2
    · rw [if_neg hL] at ekl
      rw [← ekl]
      exact Nat.zero_le _
theorem same_refl3 (a : Msg) : sameB a a = true := sameB_iff.2 ⟨rfl, fun _ _ => rfl, fun _ _ => rfl, rfl⟩
end Go.Proofs.YtbjoohafgkodcaaGreat
