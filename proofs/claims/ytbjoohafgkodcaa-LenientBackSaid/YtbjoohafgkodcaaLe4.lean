/- Bytes behind others: the last number and text counts, lists go on; fields put are read back as fields. No walk. -/
import Derived.Test.YtbjoohafgkodcaaLe3
namespace Go.Proofs.Ytbjoohafgkodcaa
open Go Go.RowKit Go.Shelf

theorem decF_app_err (k : Nat) (ver : Int) : ∀ (a b : List Fld) (m : Msg), (decF k ver m a).2.1 ≠ 0 → decF k ver m (a ++ b) = decF k ver m a
  | [], b, m, h => absurd rfl h
  | x :: a, b, m, h => by
    rw [List.cons_append]
    cases hb : belR k ver x with
    | none =>
      rw [decF_skip hb] at h
      rw [decF_skip hb, decF_skip hb]
      exact decF_app_err k ver a b m h
    | some r =>
      by_cases he : (setM m r.2.2.1 r.2.2.2.1 x).2 = 0
      · rw [decF_step hb he] at h
        rw [decF_step hb he, decF_step hb he]
        exact decF_app_err k ver a b _ h
      · rw [decF_stop hb he, decF_stop hb he]
theorem decF_at (k : Nat) (ver : Int) : ∀ (l : List Fld) (s : Msg), (decF k ver s l).2.1 = 0 → (decF k ver s l).2.2 = 0
  | [], s, _ => rfl
  | x :: l, s, hs => by
    cases hb : belR k ver x with
    | none => rw [decF_skip hb] at hs ⊢; exact decF_at k ver l s hs
    | some r =>
      by_cases c : (setM s r.2.2.1 r.2.2.2.1 x).2 = 0
      · rw [decF_step hb c] at hs ⊢; exact decF_at k ver l _ hs
      · rw [decF_stop hb c] at hs; exact absurd hs c
theorem decM_ne {k : Nat} {ver : Int} {b : List UInt8} (h1 : ofKind k (rowsIn ver) ≠ []) (h2 : b.length ≤ 8192) (h3 : (fieldsR b).2.1 = 0) : decM k ver b = decF k ver (m0 k) (fieldsR b).1 := by
  unfold decM; rw [if_neg h1, if_neg (by omega), if_neg (by omega)]
/-- fields that are put are read -/
theorem read_fs {xs : List Fld} (hx : ∀ x ∈ xs, x.ok ∧ (putF x).2 = 0) : (fieldsR (bytesFs xs)).2 = (0, 0) ∧ (fieldsR (bytesFs xs)).1.map stF = (xs.map bareF).map stF := by
  have hp := putsF_all xs 0 fun x h => (hx x h).2
  have h := fieldsAt_put xs (bytesFs xs) 0 0 (fun x h => (hx x h).1) (by rw [hp]) (Nat.zero_le _) (by rw [hp]; rfl)
  have e : fieldsAt (bytesFs xs) 0 = fieldsR (bytesFs xs) := rfl
  rw [e] at h
  obtain ⟨h1, h2, h3⟩ := h
  refine ⟨h1, List.ext_getElem (by simp [h2]) fun j h4 h5 => ?_⟩
  simp only [List.length_map] at h4 h5
  rw [List.getElem_map, List.getElem_map, List.getElem_map]
  have e := likeF_iff.1 (h3 j h4 h5)
  exact Prod.ext e.1 (Prod.ext e.2.1 (Prod.ext e.2.2.1 (Prod.ext e.2.2.2 rfl)))
theorem decF_st2 {k : Nat} {ver : Int} {m : Msg} {a b : List Fld} (h : a.map stF = b.map stF) : (decF k ver m a).1 = (decF k ver m b).1 ∧ (decF k ver m a).2.1 = (decF k ver m b).2.1 := by
  have h1 := decF_st k ver a m
  have h2 := decF_st k ver b m
  have e1 : a.map (fun x => (x.1, x.2.1, x.2.2.1, x.2.2.2.1, (0 : Int))) = a.map stF := rfl
  have e2 : b.map (fun x => (x.1, x.2.1, x.2.2.1, x.2.2.2.1, (0 : Int))) = b.map stF := rfl
  rw [e1, h] at h1
  rw [e2] at h2
  exact ⟨h1.1.symm.trans h2.1, h1.2.symm.trans h2.2⟩
/-- the message of fields that are put -/
theorem dec_fs {k : Nat} {ver : Int} {xs : List Fld} (hne : ofKind k (rowsIn ver) ≠ []) (hlen : (bytesFs xs).length ≤ 8192) (hx : ∀ x ∈ xs, x.ok ∧ (putF x).2 = 0) :
    (decM k ver (bytesFs xs)).1 = (decF k ver (m0 k) (xs.map bareF)).1 ∧ (decM k ver (bytesFs xs)).2.1 = (decF k ver (m0 k) (xs.map bareF)).2.1 := by
  obtain ⟨h1, h2⟩ := read_fs hx
  rw [decM_ne hne hlen (by rw [h1])]
  exact decF_st2 h2
theorem decM_at {k : Nat} {ver : Int} {b : List UInt8} (h : (decM k ver b).2.1 = 0) : (decM k ver b).2.2 = 0 := by
  unfold decM at h ⊢
  split
  · rfl
  split
  · rfl
  rename_i h1 h2
  rw [if_neg h1, if_neg h2] at h
  split
  · rename_i h3
    rw [if_pos h3] at h; exact absurd h h3
  · rename_i h3
    rw [if_neg h3] at h
    exact decF_at _ _ _ _ h
theorem decM_z {k : Nat} {ver : Int} {b : List UInt8} (h : (decM k ver b).2.1 = 0) : decM k ver b = ((decM k ver b).1, 0, 0) := Prod.ext rfl (Prod.ext h (decM_at h))
/-- a message on which another is laid -/
def mrg (s b : Msg) (P : List Row) : Msg := ⟨s.k, fun i => if hasN P i = true ∧ b.n i ≠ 0 then b.n i else s.n i, fun i => if hasS P i = true ∧ b.s i ≠ ⟨#[]⟩ then b.s i else s.s i, if hasL P = true then s.l ++ b.l else s.l⟩
theorem mg_n (s b : Msg) (P : List Row) (i : Nat) : (mrg s b P).n i = if hasN P i = true ∧ b.n i ≠ 0 then b.n i else s.n i := rfl
theorem mg_s (s b : Msg) (P : List Row) (i : Nat) : (mrg s b P).s i = if hasS P i = true ∧ b.s i ≠ ⟨#[]⟩ then b.s i else s.s i := rfl
theorem mg_l (s b : Msg) (P : List Row) : (mrg s b P).l = if hasL P = true then s.l ++ b.l else s.l := rfl
theorem mg_nil (s b : Msg) : mrg s b [] = s := msg_ext rfl (fun _ => rfl) (fun _ => rfl) rfl
theorem mg_skip {s b : Msg} {P : List Row} {r : Row} (hr : r ∈ rowsAll) (hd : defB b r.2.2.1 r.2.2.2.1 = true) : mrg s b (P ++ [r]) = mrg s b P := by
  obtain ⟨t1, t2, t3, t4⟩ := rows_ok r hr
  obtain ⟨e1, e2, e3⟩ := def_zero hd
  refine msg_ext rfl (fun i => ?_) (fun i => ?_) ?_
  · rw [mg_n, mg_n, hasN_snoc]
    by_cases hc : (decide (rTyp r ≤ 6) && rSlot r == i) = true
    · have h := hc
      simp only [Bool.and_eq_true, decide_eq_true_eq, beq_iff_eq] at h
      rw [(pl_num (m := b) (numB_iff.2 (by have := h.1; simp only [rTyp] at *; omega)) (by omega) (by have := t3 h.1; simp only [rSlot] at this; omega)).1] at e1
      have e0 : b.n i = 0 := by rw [← h.2]; simpa using e1
      rw [if_neg (fun x => x.2 e0), if_neg (fun x => x.2 e0)]
    · have hc' : (decide (rTyp r ≤ 6) && rSlot r == i) = false := by simpa using hc
      rw [hc', Bool.or_false]
  · rw [mg_s, mg_s, hasS_snoc]
    by_cases hc : (decide (7 ≤ rTyp r) && decide (rTyp r ≤ 9) && rSlot r == i) = true
    · have h := hc
      simp only [Bool.and_eq_true, decide_eq_true_eq, beq_iff_eq] at h
      rw [(pl_txt (m := b) (txtB_iff.2 (by have := h.1; simp only [rTyp] at *; omega)) (by omega) (by have := t4 h.1.1 h.1.2; simp only [rSlot] at this; omega)).2.1] at e2
      have e0 : b.s i = ⟨#[]⟩ := by rw [← h.2]; simpa using e2
      rw [if_neg (fun x => x.2 e0), if_neg (fun x => x.2 e0)]
    · have hc' : (decide (7 ≤ rTyp r) && decide (rTyp r ≤ 9) && rSlot r == i) = false := by simpa using hc
      rw [hc', Bool.or_false]
  · rw [mg_l, mg_l, hasL_snoc]
    by_cases c : hasL P = true
    · rw [c]; rfl
    · rw [if_neg c]
      have c' : hasL P = false := by simpa using c
      rw [c', Bool.false_or]
      split
      · rename_i h
        simp only [decide_eq_true_eq] at h
        unfold plL at e3
        rw [if_pos (by simp only [rTyp] at *; omega)] at e3
        rw [e3, List.append_nil]
      · rfl
/-- a list that grows too long -/
theorem dec_list_long {k : Nat} {ver : Int} {r : Row} (hr : r ∈ ofKind k (rowsIn ver)) (h10 : (r.2.2.1 : Int) = 10) : ∀ (l : List ByteArray) (s : Msg), (∀ x ∈ l, chkV x 64 = 0) → s.l.length ≤ 64 → 64 < s.l.length + l.length →
    (decF k ver s (l.map fun x => (((r.2.1 : Nat) : Int), 2, 0, sB x, 0))).2.1 = 2
  | [], s, _, h1, h2 => by simp at h2; omega
  | x :: l, s, h, hl, h2 => by
    rw [List.length_cons] at h2
    rw [List.map_cons]
    have hb : belR k ver ((((r.2.1 : Nat) : Int), 2, 0, sB x, 0) : Fld) = some r := belR_good hr rfl (by rw [h10]; rfl)
    by_cases hf : s.l.length < 64
    · have hst := set_list (m := s) (sl := (r.2.2.2.1 : Int)) (x := (((r.2.1 : Nat) : Int), 2, 0, sB x, 0)) hf (by show chkV (bS (sB x)) 64 = 0; rw [bS_sB]; exact h x (List.mem_cons_self ..))
      rw [← h10] at hst
      rw [decF_step hb (by rw [hst]), hst]
      exact dec_list_long hr h10 l _ (fun y hy => h y (List.mem_cons_of_mem _ hy)) (by simp only [List.length_append, List.length_cons, List.length_nil]; omega) (by simp only [List.length_append, List.length_cons, List.length_nil]; omega)
    · have hst : (setM s (r.2.2.1 : Int) (r.2.2.2.1 : Int) (((r.2.1 : Nat) : Int), 2, 0, sB x, 0)) = (mZ, 2) := by
        rw [h10]; unfold setM; rw [if_pos rfl, if_pos (by omega)]
      rw [decF_stop hb (by rw [hst]; simp), hst]
/-- a row's fields behind a message -/
theorem over_row {s m : Msg} {k : Nat} {ver : Int} {P : List Row} {r : Row} (hr : r ∈ ofKind k (rowsIn ver)) (he : errR m r = 0) (hn : ∀ i, i < 6 → m.n i < 18446744073709551616) (hP : r.2.2.1 = 10 → hasL P = false) (hfit : s.l.length + m.l.length ≤ 64) :
    decF k ver (mrg s m P) (rowFs m r) = (mrg s m (P ++ [r]), 0, 0) := by
  have hra := (ofKind_sub hr).1
  obtain ⟨t1, t2, t3, t4⟩ := rows_ok r hra
  simp only [rTyp, rSlot] at t1 t2 t3 t4
  obtain ⟨w1, w2, -, -⟩ := rwireV_eq (t := (r.2.2.1 : Int)) (by omega) (by omega)
  have he' : errM m (r.2.2.1 : Int) (r.2.2.2.1 : Int) = 0 := he
  by_cases hd : defB m r.2.2.1 r.2.2.2.1 = true
  · rw [mg_skip hra hd]
    unfold rowFs; rw [if_pos hd]; rfl
  unfold rowFs
  rw [if_neg hd]
  by_cases h10 : (r.2.2.1 : Int) = 10
  · rw [if_pos h10]
    have he2 : errM m 10 (r.2.2.2.1 : Int) = 0 := by rw [← h10]; exact he'
    rw [err_list] at he2
    rw [if_neg (by omega)] at he2
    have hp := hP (by omega)
    have hcl : (mrg s m P).l = s.l := by rw [mg_l, hp]; rfl
    rw [dec_list hr h10 m.l _ (firstE_sz he2) (by rw [hcl]; exact hfit), hcl]
    refine Prod.ext (msg_ext rfl (fun i => ?_) (fun i => ?_) ?_) rfl
    · show (mrg s m P).n i = _
      rw [mg_n, mg_n, hasN_snoc]
      have : decide (rTyp r ≤ 6) = false := decide_eq_false (by simp only [rTyp]; omega)
      rw [this, Bool.false_and, Bool.or_false]
    · show (mrg s m P).s i = _
      rw [mg_s, mg_s, hasS_snoc]
      have : decide (rTyp r ≤ 9) = false := decide_eq_false (by simp only [rTyp]; omega)
      rw [this, Bool.and_false, Bool.false_and, Bool.or_false]
    · show s.l ++ m.l = _
      rw [mg_l, hasL_snoc]
      have : decide (10 ≤ rTyp r) = true := decide_eq_true (by simp only [rTyp]; omega)
      rw [this, Bool.or_true]; rfl
  rw [if_neg h10]
  have hb : ∀ Z b, belR k ver ((((r.2.1 : Nat) : Int), (rwireV (r.2.2.1 : Int)).toNat, Z, b, 0) : Fld) = some r := fun Z b => belR_good hr rfl (by rw [w1]; exact w2.symm)
  by_cases ht : txtB (r.2.2.1 : Int) = true
  · have hf := txtB_iff.1 ht
    have hsl : (r.2.2.2.1 : Int) < 2 := by have := t4 (by omega) (by omega); omega
    obtain ⟨-, e2, -⟩ := pl_txt (m := m) ht (Int.natCast_nonneg _) hsl
    rw [Int.toNat_natCast] at e2
    rw [e2]
    have hne : m.s r.2.2.2.1 ≠ ⟨#[]⟩ := fun e0 => hd (by rw [def_txt ht (Int.natCast_nonneg _) hsl, Int.toNat_natCast, e0]; simp [ByteArray.toList_eq])
    rw [err_txt ht (Int.natCast_nonneg _) hsl, Int.toNat_natCast] at he'
    have hst := set_txt (m := mrg s m P) (x := ((((r.2.1 : Nat) : Int), (rwireV (r.2.2.1 : Int)).toNat, (if (r.2.2.1 : Int) = 3 then zigN (wrap64 (plN m r.2.2.1 r.2.2.2.1)) else plN m r.2.2.1 r.2.2.2.1), sB (m.s r.2.2.2.1), 0) : Fld)) ht (Int.natCast_nonneg _) hsl (by show chkV (bS (sB _)) _ = 0; rw [bS_sB]; exact he')
    rw [decF_step (hb _ _) (by rw [hst]), hst]
    refine Prod.ext (msg_ext rfl (fun i => ?_) (fun i => ?_) ?_) rfl
    · show (mrg s m P).n i = _
      rw [mg_n, mg_n, hasN_snoc]
      have : decide (rTyp r ≤ 6) = false := decide_eq_false (by simp only [rTyp]; omega)
      rw [this, Bool.false_and, Bool.or_false]
    · show (if i = (r.2.2.2.1 : Int).toNat then bS (sB (m.s r.2.2.2.1)) else (mrg s m P).s i) = _
      rw [Int.toNat_natCast, bS_sB, mg_s, mg_s, hasS_snoc]
      have e7 : decide (7 ≤ rTyp r) = true := decide_eq_true (by simp only [rTyp]; omega)
      have e9 : decide (rTyp r ≤ 9) = true := decide_eq_true (by simp only [rTyp]; omega)
      rw [e7, e9, Bool.true_and, Bool.true_and]
      by_cases c : i = r.2.2.2.1
      · subst c
        rw [if_pos rfl, if_pos ⟨by simp [rSlot], hne⟩]
      · rw [if_neg c]
        have : (rSlot r == i) = false := by simp only [rSlot]; rw [beq_eq_false_iff_ne]; omega
        rw [this, Bool.or_false]
    · show (mrg s m P).l = _
      rw [mg_l, mg_l, hasL_snoc]
      have : decide (10 ≤ rTyp r) = false := decide_eq_false (by simp only [rTyp]; omega)
      rw [this, Bool.or_false]
  · have hty : r.2.2.1 ≤ 6 := by
      by_cases c : 7 ≤ (r.2.2.1 : Int) ∧ (r.2.2.1 : Int) ≤ 9
      · exact absurd (txtB_iff.2 c) ht
      · omega
    have hnb := numB_iff.2 (show 1 ≤ (r.2.2.1 : Int) ∧ (r.2.2.1 : Int) ≤ 6 by omega)
    have hsl : (r.2.2.2.1 : Int) < 6 := by have := t3 hty; omega
    obtain ⟨e1, -, -⟩ := pl_num (m := m) hnb (Int.natCast_nonneg _) hsl
    have hne : m.n r.2.2.2.1 ≠ 0 := fun e0 => hd (by rw [def_num hnb (Int.natCast_nonneg _) hsl, Int.toNat_natCast, e0]; rfl)
    obtain ⟨o1, o2⟩ := err_one he'
    rw [e1, Int.toNat_natCast] at o1 o2 ⊢
    have hnn := hn r.2.2.2.1 (by omega)
    have hst := set_num (m := mrg s m P) (x := ((((r.2.1 : Nat) : Int), (rwireV (r.2.2.1 : Int)).toNat, (if (r.2.2.1 : Int) = 3 then zigN (wrap64 (m.n r.2.2.2.1)) else m.n r.2.2.2.1), sB (plS m r.2.2.1 r.2.2.2.1), 0) : Fld)) hnb (Int.natCast_nonneg _) hsl
    have hv : numV (r.2.2.1 : Int) (if (r.2.2.1 : Int) = 3 then zigN (wrap64 (m.n r.2.2.2.1)) else m.n r.2.2.2.1) = m.n r.2.2.2.1 := by
      unfold numV
      by_cases c1 : (r.2.2.1 : Int) = 1
      · rw [if_pos c1, if_neg (by omega)]; exact Nat.mod_eq_of_lt (by have := o1 (.inl c1); omega)
      rw [if_neg c1]
      by_cases c4 : (r.2.2.1 : Int) = 4
      · rw [if_pos c4, if_neg (by omega)]; have := o2 c4; omega
      rw [if_neg c4]
      by_cases c3 : (r.2.2.1 : Int) = 3
      · rw [if_pos c3, if_pos c3]; exact zag_zig hnn
      · rw [if_neg c3, if_neg c3]
    rw [decF_step (hb _ _) (by rw [hst]), hst]
    refine Prod.ext (msg_ext rfl (fun i => ?_) (fun i => ?_) ?_) rfl
    · show (if i = (r.2.2.2.1 : Int).toNat then numV (r.2.2.1 : Int) (if (r.2.2.1 : Int) = 3 then zigN (wrap64 (m.n r.2.2.2.1)) else m.n r.2.2.2.1) else (mrg s m P).n i) = _
      rw [hv, Int.toNat_natCast, mg_n, mg_n, hasN_snoc]
      have e6 : decide (rTyp r ≤ 6) = true := decide_eq_true (by simp only [rTyp]; omega)
      rw [e6, Bool.true_and]
      by_cases c : i = r.2.2.2.1
      · subst c
        rw [if_pos rfl, if_pos ⟨by simp [rSlot], hne⟩]
      · rw [if_neg c]
        have : (rSlot r == i) = false := by simp only [rSlot]; rw [beq_eq_false_iff_ne]; omega
        rw [this, Bool.or_false]
    · show (mrg s m P).s i = _
      rw [mg_s, mg_s, hasS_snoc]
      have : decide (7 ≤ rTyp r) = false := decide_eq_false (by simp only [rTyp]; omega)
      rw [this, Bool.false_and, Bool.false_and, Bool.or_false]
    · show (mrg s m P).l = _
      rw [mg_l, mg_l, hasL_snoc]
      have : decide (10 ≤ rTyp r) = false := decide_eq_false (by simp only [rTyp]; omega)
      rw [this, Bool.or_false]
theorem over_rows {s m : Msg} {k : Nat} {ver : Int} (hn : ∀ i, i < 6 → m.n i < 18446744073709551616) (hfit : s.l.length + m.l.length ≤ 64) : ∀ (Q P : List Row), (∀ r ∈ Q, r ∈ ofKind k (rowsIn ver)) → (∀ r ∈ Q, errR m r = 0) → (∀ r ∈ Q, r.2.2.1 = 10 → hasL P = false) → Q.Pairwise (fun r r' => ¬ (r.2.2.1 = 10 ∧ r'.2.2.1 = 10)) →
    decF k ver (mrg s m P) (msgFs m Q) = (mrg s m (P ++ Q), 0, 0)
  | [], P, _, _, _, _ => by rw [List.append_nil]; rfl
  | r :: Q, P, h1, h2, h3, h4 => by
    obtain ⟨p1, p2⟩ := List.pairwise_cons.1 h4
    have hd := over_row (s := s) (m := m) (P := P) (h1 r (List.mem_cons_self ..)) (h2 r (List.mem_cons_self ..)) hn (h3 r (List.mem_cons_self ..)) hfit
    show decF k ver (mrg s m P) (rowFs m r ++ msgFs m Q) = _
    rw [decF_app k ver _ _ _ (by rw [hd]), hd]
    have := over_rows (s := s) hn hfit Q (P ++ [r]) (fun x hx => h1 x (List.mem_cons_of_mem _ hx)) (fun x hx => h2 x (List.mem_cons_of_mem _ hx)) (fun x hx e => by
      have e1 := h3 x (List.mem_cons_of_mem _ hx) e
      have e2 := p1 x hx
      rw [hasL_snoc, e1, Bool.false_or]
      have t2 := (of_ok (h1 r (List.mem_cons_self ..))).2.1
      exact decide_eq_false (by simp only [rTyp] at *; omega)) p2
    rw [List.append_assoc] at this
    exact this
/-- only numbers and texts: the list stays -/
theorem set_keeps {s : Msg} {t sl : Int} {x : Fld} (h : (setM s t sl x).2 = 0) (ht : t ≠ 10) : (setM s t sl x).1.l = s.l := by
  rcases set_parts h with ⟨e, -⟩ | ⟨-, -, -, -, q⟩ | ⟨-, -, -, q⟩
  · exact absurd e ht
  · rw [q]
  · rw [q]
/-- the list is too long, wherever it stands -/
theorem over_long {m : Msg} {k : Nat} {ver : Int} (hn : ∀ i, i < 6 → m.n i < 18446744073709551616) (hml : m.l.length ≤ 64) : ∀ (Q : List Row) (s : Msg), s.l.length ≤ 64 → 64 < s.l.length + m.l.length → (∀ r ∈ Q, r ∈ ofKind k (rowsIn ver)) → (∀ r ∈ Q, errR m r = 0) → hasL Q = true →
    (decF k ver s (msgFs m Q)).2.1 = 2
  | [], s, _, _, _, _, h => by simp [hasL] at h
  | r :: Q, s, hs, hlong, h1, h2, hL => by
    have hr := h1 r (List.mem_cons_self ..)
    have hra := (ofKind_sub hr).1
    obtain ⟨t1, t2, -, -⟩ := rows_ok r hra
    simp only [rTyp] at t1 t2
    have he := h2 r (List.mem_cons_self ..)
    show (decF k ver s (rowFs m r ++ msgFs m Q)).2.1 = 2
    by_cases h10 : (r.2.2.1 : Int) = 10
    · have hd : ¬ defB m r.2.2.1 r.2.2.2.1 = true := fun hd => by
        obtain ⟨-, -, e3⟩ := def_zero hd
        unfold plL at e3
        rw [if_pos h10] at e3
        rw [e3] at hlong; simp at hlong; omega
      have he2 : errM m 10 (r.2.2.2.1 : Int) = 0 := by rw [← h10]; exact he
      rw [err_list] at he2
      rw [if_neg (by omega)] at he2
      have hrow : rowFs m r = m.l.map fun x => (((r.2.1 : Nat) : Int), 2, 0, sB x, 0) := by unfold rowFs; rw [if_neg hd, if_pos h10]
      have := dec_list_long hr h10 m.l s (firstE_sz he2) hs hlong
      rw [hrow, decF_app_err _ _ _ _ _ (by rw [this]; simp), this]
    · have hL2 : hasL Q = true := by
        have e : decide (10 ≤ rTyp r) = false := decide_eq_false (by simp only [rTyp]; omega)
        have e2 : hasL (r :: Q) = (decide (10 ≤ rTyp r) || hasL Q) := by simp [hasL]
        rw [e2, e, Bool.false_or] at hL; exact hL
      have hok : ∃ s', decF k ver s (rowFs m r) = (s', 0, 0) ∧ s'.l = s.l := by
        have h := over_row (s := ⟨s.k, s.n, s.s, []⟩) (m := m) (P := []) hr he hn (fun e => by omega) (by simpa using hml)
        by_cases hd : defB m r.2.2.1 r.2.2.2.1 = true
        · exact ⟨s, by unfold rowFs; rw [if_pos hd]; rfl, rfl⟩
        · obtain ⟨x, hx⟩ : ∃ x, rowFs m r = [x] := by unfold rowFs; rw [if_neg hd, if_neg h10]; exact ⟨_, rfl⟩
          rw [hx] at h ⊢
          cases hb : belR k ver x with
          | none => exact ⟨s, decF_skip hb, rfl⟩
          | some r' =>
            obtain ⟨b1, b2, -⟩ := belR_mem hb
            have hnum := rowFs_num (m := m) (r := r) (x := x) (by rw [hx]; exact List.mem_singleton.2 rfl)
            have : r' = r := rows_uniq r' (ofKind_sub b1).1 r hra (by rw [(ofKind_sub b1).2, (ofKind_sub hr).2]) (by omega)
            subst this
            by_cases c : (setM s r'.2.2.1 r'.2.2.2.1 x).2 = 0
            · exact ⟨(setM s r'.2.2.1 r'.2.2.2.1 x).1, decF_step hb c, set_keeps c h10⟩
            · exfalso
              by_cases c2 : (setM (mrg ⟨s.k, s.n, s.s, []⟩ m []) r'.2.2.1 r'.2.2.2.1 x).2 = 0
              · refine c ?_
                rcases set_parts c2 with ⟨e, -⟩ | ⟨e, l1, l2, d, -⟩ | ⟨e, l1, l2, -⟩
                · exact absurd e h10
                · rw [set_txt e l1 l2 d]
                · rw [set_num e l1 l2]
              · rw [decF_stop hb c2] at h
                exact c2 (congrArg (·.2.1) h)
      obtain ⟨s', e1, e2⟩ := hok
      rw [decF_app k ver _ _ _ (by rw [e1]), e1]
      exact over_long hn hml Q s' (by rw [e2]; exact hs) (by rw [e2]; exact hlong) (fun x hx => h1 x (List.mem_cons_of_mem _ hx)) (fun x hx => h2 x (List.mem_cons_of_mem _ hx)) hL2
theorem of_lists (k : Nat) (ver : Int) : (ofKind k (rowsIn ver)).Pairwise (fun r r' => ¬ (r.2.2.1 = 10 ∧ r'.2.2.1 = 10)) :=
  List.Pairwise.imp_of_mem (fun {a b} ha hb hlt => by
    have e1 := ofKind_sub ha
    have e2 := ofKind_sub hb
    exact (rows_place a e1.1 b e2.1 (by rw [e1.2, e2.2]) (by omega)).1) (of_pair k ver)
/-- the fields of a message that may be -/
theorem msg_good {m : Msg} {ver : Int} (h : (chkM m (ofKind m.k (rowsIn ver))).1 = 0) (hn : ∀ i, i < 6 → m.n i < 18446744073709551616) :
    msgB m (ofKind m.k (rowsIn ver)) = bytesFs (msgFs m (ofKind m.k (rowsIn ver))) ∧ ofKind m.k (rowsIn ver) ≠ [] ∧ (∀ x ∈ msgFs m (ofKind m.k (rowsIn ver)), x.ok ∧ (putF x).2 = 0) ∧ (msgFs m (ofKind m.k (rowsIn ver))).map bareF = msgFs m (ofKind m.k (rowsIn ver)) ∧ m.l.length ≤ 64 := by
  obtain ⟨hb, -, -, -, -, hg⟩ := small_msg h hn
  obtain ⟨he, hc⟩ := chk_oks h
  refine ⟨hb, fun e => by rw [e] at h; simp [chkM] at h, fun x hx => by obtain ⟨r, -, g⟩ := hg x hx; exact ⟨g.ok, g.err⟩, ?_, ?_⟩
  · conv => rhs; rw [← List.map_id (msgFs m (ofKind m.k (rowsIn ver)))]
    exact List.map_congr_left fun x hx => by obtain ⟨r, -, g⟩ := hg x hx; exact g.bare
  · by_cases hl : hasL (ofKind m.k (rowsIn ver)) = true
    · obtain ⟨r, hr, ht⟩ := List.any_eq_true.1 hl
      simp only [decide_eq_true_eq, rTyp] at ht
      obtain ⟨-, t2, -, -⟩ := rows_ok r (ofKind_sub hr).1
      simp only [rTyp] at t2
      have e := he r hr
      have e' : errM m (r.2.2.1 : Int) (r.2.2.2.1 : Int) = 0 := e
      rw [show (r.2.2.1 : Int) = 10 by omega, err_list] at e'
      by_cases c : 64 < m.l.length
      · rw [if_pos c] at e'; simp at e'
      · omega
    · have := (clean_at hc).2.2 (by simpa using hl)
      rw [this]; simp
/-- bytes behind others -/
theorem last_law {a b : Msg} {ver : Int} (hk : a.k = b.k) (ha : (chkM a (ofKind a.k (rowsIn ver))).1 = 0) (hb : (chkM b (ofKind b.k (rowsIn ver))).1 = 0) (hna : ∀ i, i < 6 → a.n i < 18446744073709551616) (hnb : ∀ i, i < 6 → b.n i < 18446744073709551616)
    (hlen : (msgB a (ofKind a.k (rowsIn ver)) ++ msgB b (ofKind b.k (rowsIn ver))).length ≤ 8192) :
    (64 < a.l.length + b.l.length → (decM a.k ver (msgB a (ofKind a.k (rowsIn ver)) ++ msgB b (ofKind b.k (rowsIn ver)))).2.1 = 2) ∧
    (a.l.length + b.l.length ≤ 64 → (decM a.k ver (msgB a (ofKind a.k (rowsIn ver)) ++ msgB b (ofKind b.k (rowsIn ver)))).2.1 = 0 ∧
      (∀ i, i < 6 → (decM a.k ver (msgB a (ofKind a.k (rowsIn ver)) ++ msgB b (ofKind b.k (rowsIn ver)))).1.n i = if b.n i ≠ 0 then b.n i else a.n i) ∧
      (∀ i, i < 2 → (decM a.k ver (msgB a (ofKind a.k (rowsIn ver)) ++ msgB b (ofKind b.k (rowsIn ver)))).1.s i = if b.s i ≠ ⟨#[]⟩ then b.s i else a.s i) ∧
      (decM a.k ver (msgB a (ofKind a.k (rowsIn ver)) ++ msgB b (ofKind b.k (rowsIn ver)))).1.l = a.l ++ b.l) := by
  obtain ⟨a1, a2, a3, a4, a5⟩ := msg_good ha hna
  obtain ⟨b1, b2, b3, b4, b5⟩ := msg_good hb hnb
  obtain ⟨ea, ca⟩ := chk_oks ha
  obtain ⟨eb, cb⟩ := chk_oks hb
  obtain ⟨qa1, qa2, qa3⟩ := clean_at ca
  obtain ⟨qb1, qb2, qb3⟩ := clean_at cb
  rw [a1, b1, ← bytesFs_app] at hlen ⊢
  rw [← hk] at b3 b4 eb qb1 qb2 qb3 hlen ⊢
  obtain ⟨d1, d2⟩ := dec_fs (k := a.k) (ver := ver) a2 hlen (fun x hx => (List.mem_append.1 hx).elim (a3 x) (b3 x))
  rw [List.map_append, a4, b4] at d1 d2
  have hda := dec_rows (m := a) (k := a.k) (ver := ver) hna (ofKind a.k (rowsIn ver)) [] (fun r hr => hr) ea (fun _ _ _ => rfl) (of_lists _ _)
  rw [List.nil_append, clean_nil] at hda
  rw [decF_app _ _ _ _ _ (by rw [hda]), hda] at d1 d2
  have hcl : (cleanM a (ofKind a.k (rowsIn ver))).l = a.l := by
    rw [cl]; split
    · rfl
    · rename_i c; exact (qa3 (by simpa using c)).symm
  refine ⟨fun hlong => ?_, fun hfit => ?_⟩
  · rw [d2]
    refine over_long hnb b5 _ _ (by rw [hcl]; exact a5) (by rw [hcl]; exact hlong) (fun r hr => hr) eb ?_
    cases hL : hasL (ofKind a.k (rowsIn ver)) with
    | true => rfl
    | false => rw [qa3 hL, qb3 hL] at hlong; simp at hlong
  · have ho := over_rows (s := cleanM a (ofKind a.k (rowsIn ver))) (m := b) (k := a.k) (ver := ver) hnb (by rw [hcl]; exact hfit) (ofKind a.k (rowsIn ver)) [] (fun r hr => hr) eb (fun _ _ _ => rfl) (of_lists _ _)
    rw [List.nil_append, mg_nil] at ho
    rw [ho] at d1 d2
    refine ⟨d2, fun i hi => ?_, fun i hi => ?_, ?_⟩
    · rw [d1]
      show (mrg _ _ _).n i = _
      rw [mg_n, cn]
      by_cases c : hasN (ofKind a.k (rowsIn ver)) i = true
      · by_cases z : b.n i = 0
        · rw [if_neg (fun x => x.2 z), if_pos c, if_neg (fun x => x z)]
        · rw [if_pos ⟨c, z⟩, if_pos z]
      · have c' : hasN (ofKind a.k (rowsIn ver)) i = false := by simpa using c
        rw [if_neg (fun x => c x.1), if_neg c, qb1 i hi c', qa1 i hi c']
        simp
    · rw [d1]
      show (mrg _ _ _).s i = _
      rw [mg_s, cs]
      by_cases c : hasS (ofKind a.k (rowsIn ver)) i = true
      · by_cases z : b.s i = ⟨#[]⟩
        · rw [if_neg (fun x => x.2 z), if_pos c, if_neg (fun x => x z)]
        · rw [if_pos ⟨c, z⟩, if_pos z]
      · have c' : hasS (ofKind a.k (rowsIn ver)) i = false := by simpa using c
        rw [if_neg (fun x => c x.1), if_neg c, qb2 i hi c', qa2 i hi c']
        simp
    · rw [d1]
      show (mrg _ _ _).l = _
      rw [mg_l, hcl]
      split
      · rfl
      · rename_i c; rw [qb3 (by simpa using c), List.append_nil]
end Go.Proofs.Ytbjoohafgkodcaa
