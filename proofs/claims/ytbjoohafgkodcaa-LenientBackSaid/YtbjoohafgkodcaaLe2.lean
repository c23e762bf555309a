/- A message that may be is read as it was written. No walk. -/
import Derived.Test.YtbjoohafgkodcaaLe1
import Derived.Test.YtbjoohafgkodcaaWo2
namespace Go.Proofs.Ytbjoohafgkodcaa
open Go Go.RowKit Go.Shelf

theorem msg_ext {a b : Msg} (h1 : a.k = b.k) (h2 : ∀ i, a.n i = b.n i) (h3 : ∀ i, a.s i = b.s i) (h4 : a.l = b.l) : a = b := by
  obtain ⟨k, n, s, l⟩ := a
  obtain ⟨k', n', s', l'⟩ := b
  simp only at h1 h2 h3 h4
  subst h1 h4
  rw [show n = n' from funext h2, show s = s' from funext h3]
theorem clean_nil (m : Msg) : cleanM m [] = m0 m.k := msg_ext rfl (fun _ => rfl) (fun _ => rfl) rfl
theorem cn (m : Msg) (L : List Row) (i : Nat) : (cleanM m L).n i = if hasN L i = true then m.n i else 0 := rfl
theorem cs (m : Msg) (L : List Row) (i : Nat) : (cleanM m L).s i = if hasS L i = true then m.s i else ⟨#[]⟩ := rfl
theorem cl (m : Msg) (L : List Row) : (cleanM m L).l = if hasL L = true then m.l else [] := rfl
/-- a row that has nothing adds nothing -/
theorem clean_skip {m : Msg} {P : List Row} {r : Row} (hr : r ∈ rowsAll) (hd : defB m r.2.2.1 r.2.2.2.1 = true) : cleanM m (P ++ [r]) = cleanM m P := by
  obtain ⟨t1, t2, t3, t4⟩ := rows_ok r hr
  obtain ⟨e1, e2, e3⟩ := def_zero hd
  refine msg_ext rfl (fun i => ?_) (fun i => ?_) ?_
  · rw [cn, cn, hasN_snoc]
    by_cases c : hasN P i = true
    · rw [c]; rfl
    · rw [if_neg c]
      have c' : hasN P i = false := by simpa using c
      rw [c', Bool.false_or]
      split
      · rename_i h
        simp only [Bool.and_eq_true, decide_eq_true_eq, beq_iff_eq] at h
        rw [(pl_num (m := m) (numB_iff.2 (by have := h.1; simp only [rTyp] at *; omega)) (by omega) (by have := t3 h.1; simp only [rSlot] at this; omega)).1] at e1
        rw [← h.2]; simpa using e1
      · rfl
  · rw [cs, cs, hasS_snoc]
    by_cases c : hasS P i = true
    · rw [c]; rfl
    · rw [if_neg c]
      have c' : hasS P i = false := by simpa using c
      rw [c', Bool.false_or]
      split
      · rename_i h
        simp only [Bool.and_eq_true, decide_eq_true_eq, beq_iff_eq] at h
        rw [(pl_txt (m := m) (txtB_iff.2 (by have := h.1; simp only [rTyp] at *; omega)) (by omega) (by have := t4 h.1.1 h.1.2; simp only [rSlot] at this; omega)).2.1] at e2
        rw [← h.2]; simpa using e2
      · rfl
  · rw [cl, cl, hasL_snoc]
    by_cases c : hasL P = true
    · rw [c]; rfl
    · rw [if_neg c]
      have c' : hasL P = false := by simpa using c
      rw [c', Bool.false_or]
      split
      · rename_i h
        simp only [decide_eq_true_eq] at h
        unfold plL at e3
        rw [if_pos (by simp only [rTyp] at *; omega)] at e3
        exact e3
      · rfl
theorem set_list {m : Msg} {sl : Int} {x : Fld} (h1 : m.l.length < 64) (h2 : chkV (bS (fB x)) 64 = 0) : setM m 10 sl x = (⟨m.k, m.n, m.s, m.l ++ [bS (fB x)]⟩, 0) := by
  unfold setM; rw [if_pos rfl, if_neg (by omega), if_neg (by omega)]
theorem set_txt {m : Msg} {t sl : Int} {x : Fld} (ht : txtB t = true) (h0 : 0 ≤ sl) (h2 : sl < 2) (hc : chkV (bS (fB x)) (mostV t) = 0) : setM m t sl x = (⟨m.k, m.n, fun i => if i = sl.toNat then bS (fB x) else m.s i, m.l⟩, 0) := by
  have := txtB_iff.1 ht
  unfold setM; rw [if_neg (by omega), if_pos ⟨ht, h0, h2⟩, if_neg (by omega)]
theorem set_num {m : Msg} {t sl : Int} {x : Fld} (ht : numB t = true) (h0 : 0 ≤ sl) (h6 : sl < 6) : setM m t sl x = (⟨m.k, fun i => if i = sl.toNat then numV t (fN x) else m.n i, m.s, m.l⟩, 0) := by
  have := numB_iff.1 ht
  unfold setM; rw [if_neg (by omega), if_neg (fun h => by have := txtB_iff.1 h.1; omega), if_pos ⟨ht, h0, h6⟩]
/-- a list's fields, one by one -/
theorem dec_list {k : Nat} {ver : Int} {r : Row} (hr : r ∈ ofKind k (rowsIn ver)) (h10 : (r.2.2.1 : Int) = 10) : ∀ (l : List ByteArray) (s : Msg), (∀ x ∈ l, chkV x 64 = 0) → s.l.length + l.length ≤ 64 →
    decF k ver s (l.map fun x => (((r.2.1 : Nat) : Int), 2, 0, sB x, 0)) = (⟨s.k, s.n, s.s, s.l ++ l⟩, 0, 0)
  | [], s, _, _ => by
    show (s, 0, 0) = _
    rw [List.append_nil]
  | x :: l, s, h, hl => by
    rw [List.length_cons] at hl
    rw [List.map_cons]
    have hb : belR k ver ((((r.2.1 : Nat) : Int), 2, 0, sB x, 0) : Fld) = some r := belR_good hr rfl (by rw [h10]; rfl)
    have hst := set_list (m := s) (sl := (r.2.2.2.1 : Int)) (x := (((r.2.1 : Nat) : Int), 2, 0, sB x, 0)) (by omega) (by show chkV (bS (sB x)) 64 = 0; rw [bS_sB]; exact h x (List.mem_cons_self ..))
    rw [← h10] at hst
    rw [decF_step hb (by rw [hst]), hst]
    rw [dec_list hr h10 l _ (fun y hy => h y (List.mem_cons_of_mem _ hy)) (by simp only [List.length_append, List.length_cons, List.length_nil]; omega)]
    show ((⟨s.k, s.n, s.s, (s.l ++ [bS (sB x)]) ++ l⟩ : Msg), 0, 0) = _
    rw [bS_sB, List.append_assoc]
    rfl
/-- a row's fields -/
theorem dec_row {m : Msg} {k : Nat} {ver : Int} {P : List Row} {r : Row} (hr : r ∈ ofKind k (rowsIn ver)) (he : errR m r = 0) (hn : ∀ i, i < 6 → m.n i < 18446744073709551616) (hP : r.2.2.1 = 10 → hasL P = false) :
    decF k ver (cleanM m P) (rowFs m r) = (cleanM m (P ++ [r]), 0, 0) := by
  have hra := (ofKind_sub hr).1
  obtain ⟨t1, t2, t3, t4⟩ := rows_ok r hra
  simp only [rTyp, rSlot] at t1 t2 t3 t4
  obtain ⟨w1, w2, -, -⟩ := rwireV_eq (t := (r.2.2.1 : Int)) (by omega) (by omega)
  have he' : errM m (r.2.2.1 : Int) (r.2.2.2.1 : Int) = 0 := he
  by_cases hd : defB m r.2.2.1 r.2.2.2.1 = true
  · rw [clean_skip hra hd]
    unfold rowFs; rw [if_pos hd]; rfl
  unfold rowFs
  rw [if_neg hd]
  by_cases h10 : (r.2.2.1 : Int) = 10
  · rw [if_pos h10]
    have he2 : errM m 10 (r.2.2.2.1 : Int) = 0 := by rw [← h10]; exact he'
    rw [err_list] at he2
    have hlen : m.l.length ≤ 64 := by
      by_cases c : 64 < m.l.length
      · rw [if_pos c] at he2; simp at he2
      · omega
    rw [if_neg (by omega)] at he2
    have hp := hP (by omega)
    have hcl : (cleanM m P).l = [] := by rw [cl, hp]; rfl
    rw [dec_list hr h10 m.l _ (firstE_sz he2) (by rw [hcl]; simpa using hlen), hcl, List.nil_append]
    refine Prod.ext (msg_ext rfl (fun i => ?_) (fun i => ?_) ?_) rfl
    · show (cleanM m P).n i = _
      rw [cn, cn, hasN_snoc]
      have : decide (rTyp r ≤ 6) = false := decide_eq_false (by simp only [rTyp]; omega)
      rw [this, Bool.false_and, Bool.or_false]
    · show (cleanM m P).s i = _
      rw [cs, cs, hasS_snoc]
      have : decide (rTyp r ≤ 9) = false := decide_eq_false (by simp only [rTyp]; omega)
      rw [this, Bool.and_false, Bool.false_and, Bool.or_false]
    · show m.l = _
      rw [cl, hasL_snoc]
      have : decide (10 ≤ rTyp r) = true := decide_eq_true (by simp only [rTyp]; omega)
      rw [this, Bool.or_true]; rfl
  rw [if_neg h10]
  have hb : ∀ Z b, belR k ver ((((r.2.1 : Nat) : Int), (rwireV (r.2.2.1 : Int)).toNat, Z, b, 0) : Fld) = some r := fun Z b => belR_good hr rfl (by rw [w1]; exact w2.symm)
  by_cases ht : txtB (r.2.2.1 : Int) = true
  · have hf := txtB_iff.1 ht
    have hsl : (r.2.2.2.1 : Int) < 2 := by have := t4 (by omega) (by omega); omega
    obtain ⟨-, e2, -⟩ := pl_txt (m := m) ht (Int.natCast_nonneg _) hsl
    rw [Int.toNat_natCast] at e2
    rw [e2]
    rw [err_txt ht (Int.natCast_nonneg _) hsl, Int.toNat_natCast] at he'
    have hst := set_txt (m := cleanM m P) (x := ((((r.2.1 : Nat) : Int), (rwireV (r.2.2.1 : Int)).toNat, (if (r.2.2.1 : Int) = 3 then zigN (wrap64 (plN m r.2.2.1 r.2.2.2.1)) else plN m r.2.2.1 r.2.2.2.1), sB (m.s r.2.2.2.1), 0) : Fld)) ht (Int.natCast_nonneg _) hsl (by show chkV (bS (sB _)) _ = 0; rw [bS_sB]; exact he')
    rw [decF_step (hb _ _) (by rw [hst]), hst]
    refine Prod.ext (msg_ext rfl (fun i => ?_) (fun i => ?_) ?_) rfl
    · show (cleanM m P).n i = _
      rw [cn, cn, hasN_snoc]
      have : decide (rTyp r ≤ 6) = false := decide_eq_false (by simp only [rTyp]; omega)
      rw [this, Bool.false_and, Bool.or_false]
    · show (if i = (r.2.2.2.1 : Int).toNat then bS (sB (m.s r.2.2.2.1)) else (cleanM m P).s i) = _
      rw [Int.toNat_natCast, bS_sB, cs, cs, hasS_snoc]
      have e7 : decide (7 ≤ rTyp r) = true := decide_eq_true (by simp only [rTyp]; omega)
      have e9 : decide (rTyp r ≤ 9) = true := decide_eq_true (by simp only [rTyp]; omega)
      rw [e7, e9, Bool.true_and, Bool.true_and]
      by_cases c : i = r.2.2.2.1
      · subst c
        rw [if_pos rfl, if_pos (by simp [rSlot])]
      · rw [if_neg c]
        have : (rSlot r == i) = false := by simp only [rSlot]; rw [beq_eq_false_iff_ne]; omega
        rw [this, Bool.or_false]
    · show (cleanM m P).l = _
      rw [cl, cl, hasL_snoc]
      have : decide (10 ≤ rTyp r) = false := decide_eq_false (by simp only [rTyp]; omega)
      rw [this, Bool.or_false]
  · have hty : r.2.2.1 ≤ 6 := by
      by_cases c : 7 ≤ (r.2.2.1 : Int) ∧ (r.2.2.1 : Int) ≤ 9
      · exact absurd (txtB_iff.2 c) ht
      · omega
    have hnb := numB_iff.2 (show 1 ≤ (r.2.2.1 : Int) ∧ (r.2.2.1 : Int) ≤ 6 by omega)
    have hsl : (r.2.2.2.1 : Int) < 6 := by have := t3 hty; omega
    obtain ⟨e1, -, -⟩ := pl_num (m := m) hnb (Int.natCast_nonneg _) hsl
    obtain ⟨o1, o2⟩ := err_one he'
    rw [e1, Int.toNat_natCast] at o1 o2 ⊢
    have hnn := hn r.2.2.2.1 (by omega)
    have hst := set_num (m := cleanM m P) (x := ((((r.2.1 : Nat) : Int), (rwireV (r.2.2.1 : Int)).toNat, (if (r.2.2.1 : Int) = 3 then zigN (wrap64 (m.n r.2.2.2.1)) else m.n r.2.2.2.1), sB (plS m r.2.2.1 r.2.2.2.1), 0) : Fld)) hnb (Int.natCast_nonneg _) hsl
    have hv : numV (r.2.2.1 : Int) (if (r.2.2.1 : Int) = 3 then zigN (wrap64 (m.n r.2.2.2.1)) else m.n r.2.2.2.1) = m.n r.2.2.2.1 := by
      unfold numV
      by_cases c1 : (r.2.2.1 : Int) = 1
      · rw [if_pos c1, if_neg (by omega)]; exact Nat.mod_eq_of_lt (by have := o1 (.inl c1); omega)
      rw [if_neg c1]
      by_cases c4 : (r.2.2.1 : Int) = 4
      · rw [if_pos c4, if_neg (by omega)]; have := o2 c4; omega
      rw [if_neg c4]
      by_cases c3 : (r.2.2.1 : Int) = 3
      · rw [if_pos c3, if_pos c3]; exact zag_zig hnn
      · rw [if_neg c3, if_neg c3]
    rw [decF_step (hb _ _) (by rw [hst]), hst]
    refine Prod.ext (msg_ext rfl (fun i => ?_) (fun i => ?_) ?_) rfl
    · show (if i = (r.2.2.2.1 : Int).toNat then numV (r.2.2.1 : Int) (if (r.2.2.1 : Int) = 3 then zigN (wrap64 (m.n r.2.2.2.1)) else m.n r.2.2.2.1) else (cleanM m P).n i) = _
      rw [hv, Int.toNat_natCast, cn, cn, hasN_snoc]
      have e6 : decide (rTyp r ≤ 6) = true := decide_eq_true (by simp only [rTyp]; omega)
      rw [e6, Bool.true_and]
      by_cases c : i = r.2.2.2.1
      · subst c
        rw [if_pos rfl, if_pos (by simp [rSlot])]
      · rw [if_neg c]
        have : (rSlot r == i) = false := by simp only [rSlot]; rw [beq_eq_false_iff_ne]; omega
        rw [this, Bool.or_false]
    · show (cleanM m P).s i = _
      rw [cs, cs, hasS_snoc]
      have : decide (7 ≤ rTyp r) = false := decide_eq_false (by simp only [rTyp]; omega)
      rw [this, Bool.false_and, Bool.false_and, Bool.or_false]
    · show (cleanM m P).l = _
      rw [cl, cl, hasL_snoc]
      have : decide (10 ≤ rTyp r) = false := decide_eq_false (by simp only [rTyp]; omega)
      rw [this, Bool.or_false]
/-- all rows' fields -/
theorem dec_rows {m : Msg} {k : Nat} {ver : Int} (hn : ∀ i, i < 6 → m.n i < 18446744073709551616) : ∀ (Q P : List Row), (∀ r ∈ Q, r ∈ ofKind k (rowsIn ver)) → (∀ r ∈ Q, errR m r = 0) → (∀ r ∈ Q, r.2.2.1 = 10 → hasL P = false) → Q.Pairwise (fun r r' => ¬ (r.2.2.1 = 10 ∧ r'.2.2.1 = 10)) →
    decF k ver (cleanM m P) (msgFs m Q) = (cleanM m (P ++ Q), 0, 0)
  | [], P, _, _, _, _ => by rw [List.append_nil]; rfl
  | r :: Q, P, h1, h2, h3, h4 => by
    obtain ⟨p1, p2⟩ := List.pairwise_cons.1 h4
    have hd := dec_row (m := m) (P := P) (h1 r (List.mem_cons_self ..)) (h2 r (List.mem_cons_self ..)) hn (h3 r (List.mem_cons_self ..))
    show decF k ver (cleanM m P) (rowFs m r ++ msgFs m Q) = _
    rw [decF_app k ver _ _ _ (by rw [hd]), hd]
    have := dec_rows hn Q (P ++ [r]) (fun x hx => h1 x (List.mem_cons_of_mem _ hx)) (fun x hx => h2 x (List.mem_cons_of_mem _ hx)) (fun x hx e => by
      have e1 := h3 x (List.mem_cons_of_mem _ hx) e
      have e2 := p1 x hx
      rw [hasL_snoc, e1, Bool.false_or]
      have t2 := (of_ok (h1 r (List.mem_cons_self ..))).2.1
      exact decide_eq_false (by simp only [rTyp] at *; omega)) p2
    rw [List.append_assoc] at this
    exact this
end Go.Proofs.Ytbjoohafgkodcaa
