/- Fields in another order, and what is fixed, in plain words. No walk. -/
import Derived.Test.YtbjoohafgkodcaaSr1
namespace Go.Proofs.Ytbjoohafgkodcaa
open Go Go.RowKit Go.Shelf

theorem bytesFs_perm (p : Fld → Bool) (l : List Fld) : (bytesFs (l.filter p ++ l.filter fun x => !p x)).length = (bytesFs l).length := by
  rw [bytesFs_app, List.length_append, ← bytesFs_split]
theorem hasN_split (q : Row → Bool) (L : List Row) (i : Nat) : hasN (L.filter q ++ L.filter fun r => !q r) i = hasN L i := by
  rw [Bool.eq_iff_iff, hasN_iff, hasN_iff]
  constructor
  · rintro ⟨r, hr, h⟩
    rcases List.mem_append.1 hr with hr | hr
    · exact ⟨r, (List.mem_filter.1 hr).1, h⟩
    · exact ⟨r, (List.mem_filter.1 hr).1, h⟩
  · rintro ⟨r, hr, h⟩
    refine ⟨r, List.mem_append.2 ?_, h⟩
    cases hq : q r with
    | true => exact .inl (List.mem_filter.2 ⟨hr, hq⟩)
    | false => exact .inr (List.mem_filter.2 ⟨hr, by simp [hq]⟩)
theorem hasS_split (q : Row → Bool) (L : List Row) (i : Nat) : hasS (L.filter q ++ L.filter fun r => !q r) i = hasS L i := by
  rw [Bool.eq_iff_iff, hasS_iff, hasS_iff]
  constructor
  · rintro ⟨r, hr, h⟩
    rcases List.mem_append.1 hr with hr | hr
    · exact ⟨r, (List.mem_filter.1 hr).1, h⟩
    · exact ⟨r, (List.mem_filter.1 hr).1, h⟩
  · rintro ⟨r, hr, h⟩
    refine ⟨r, List.mem_append.2 ?_, h⟩
    cases hq : q r with
    | true => exact .inl (List.mem_filter.2 ⟨hr, hq⟩)
    | false => exact .inr (List.mem_filter.2 ⟨hr, by simp [hq]⟩)
theorem hasL_split (q : Row → Bool) (L : List Row) : hasL (L.filter q ++ L.filter fun r => !q r) = hasL L := by
  rw [Bool.eq_iff_iff, hasL_iff, hasL_iff]
  constructor
  · rintro ⟨r, hr, h⟩
    rcases List.mem_append.1 hr with hr | hr
    · exact ⟨r, (List.mem_filter.1 hr).1, h⟩
    · exact ⟨r, (List.mem_filter.1 hr).1, h⟩
  · rintro ⟨r, hr, h⟩
    refine ⟨r, List.mem_append.2 ?_, h⟩
    cases hq : q r with
    | true => exact .inl (List.mem_filter.2 ⟨hr, hq⟩)
    | false => exact .inr (List.mem_filter.2 ⟨hr, by simp [hq]⟩)
theorem clean_split (m : Msg) (q : Row → Bool) (L : List Row) : cleanM m (L.filter q ++ L.filter fun r => !q r) = cleanM m L :=
  msg_ext rfl (fun i => by rw [cn, cn, hasN_split]) (fun i => by rw [cs, cs, hasS_split]) (by rw [cl, cl, hasL_split])
/-- the fields of one number behind all others -/
theorem order_law {m : Msg} {ver : Int} (num : Int) (h : (chkM m (ofKind m.k (rowsIn ver))).1 = 0) (hn : ∀ i, i < 6 → m.n i < 18446744073709551616) :
    ∃ c, putsF 0 (((fieldsR (msgB m (ofKind m.k (rowsIn ver)))).1.filter fun x => x.1 != num) ++ (fieldsR (msgB m (ofKind m.k (rowsIn ver)))).1.filter fun x => x.1 == num) = (c, 0, 0) ∧ c.length = (msgB m (ofKind m.k (rowsIn ver))).length ∧ (msgB m (ofKind m.k (rowsIn ver))).length ≤ 8192 ∧
      (decM m.k ver c).2.1 = 0 ∧ sameB (decM m.k ver c).1 m = true ∧ ((strM m.k ver c).2.1 = 0 ↔ msgB m (ofKind m.k (rowsIn ver)) = c) ∧ ((strM m.k ver c).2.1 = 0 → sameB (strM m.k ver c).1 m = true) := by
  obtain ⟨a1, a2, a3, a4, a5⟩ := msg_good h hn
  obtain ⟨ea, ca⟩ := chk_oks h
  have h8 : (msgB m (ofKind m.k (rowsIn ver))).length ≤ 8192 := (small_msg h hn).2.1
  have hst := read_st h hn
  obtain ⟨F, hF⟩ : ∃ F, F = msgFs m (ofKind m.k (rowsIn ver)) := ⟨_, rfl⟩
  have e1 : ((fieldsR (msgB m (ofKind m.k (rowsIn ver)))).1.filter fun x => x.1 != num).map stF = F.filter fun x => x.1 != num := by rw [hF, ← hst, List.filter_map]; rfl
  have e2 : ((fieldsR (msgB m (ofKind m.k (rowsIn ver)))).1.filter fun x => x.1 == num).map stF = F.filter fun x => x.1 == num := by rw [hF, ← hst, List.filter_map]; rfl
  have e3 : (F.filter fun x => x.1 == num) = F.filter fun x => !(x.1 != num) := List.filter_congr fun x _ => by simp [bne]
  have hgo : ∀ x ∈ (F.filter fun x => x.1 != num) ++ F.filter fun x => x.1 == num, x.ok ∧ (putF x).2 = 0 := fun x hx => by
    refine a3 x ?_
    rw [← hF]
    rcases List.mem_append.1 hx with hx | hx
    · exact (List.mem_filter.1 hx).1
    · exact (List.mem_filter.1 hx).1
  have hb : ((F.filter fun x => x.1 != num) ++ F.filter fun x => x.1 == num).map bareF = (F.filter fun x => x.1 != num) ++ F.filter fun x => x.1 == num := by
    conv => rhs; rw [← List.map_id ((F.filter fun x => x.1 != num) ++ F.filter fun x => x.1 == num)]
    refine List.map_congr_left fun x hx => ?_
    have hx' : x ∈ F := by
      rcases List.mem_append.1 hx with hx | hx
      · exact (List.mem_filter.1 hx).1
      · exact (List.mem_filter.1 hx).1
    rw [hF] at hx'
    obtain ⟨j, hj, rfl⟩ := List.getElem_of_mem hx'
    have e := congrArg (fun l => l[j]?) a4
    simp only [List.getElem?_map, List.getElem?_eq_getElem hj, Option.map_some, Option.some.injEq] at e
    exact e
  refine ⟨bytesFs ((F.filter fun x => x.1 != num) ++ F.filter fun x => x.1 == num), ?_, ?_, h8, ?_⟩
  · rw [← putsF_st, List.map_append, e1, e2, putsF_all _ _ fun x hx => (hgo x hx).2]
  · rw [e3, bytesFs_perm, a1, hF]
  · have hl : (bytesFs ((F.filter fun x => x.1 != num) ++ F.filter fun x => x.1 == num)).length ≤ 8192 := by rw [e3, bytesFs_perm, hF, ← a1]; exact h8
    obtain ⟨d1, d2⟩ := dec_fs (k := m.k) (ver := ver) a2 hl hgo
    have hrow : ∀ r ∈ ofKind m.k (rowsIn ver), ∀ x ∈ rowFs m r, (x.1 != num) = ((r.2.1 : Int) != num) := fun r _ x hx => by have h9 := rowFs_num hx; rw [show x.1 = (r.2.1 : Int) from h9]
    have f1 : (F.filter fun x => x.1 != num) = msgFs m ((ofKind m.k (rowsIn ver)).filter fun r => (r.2.1 : Int) != num) := by rw [hF]; exact msgFs_rows _ _ _ hrow
    have f2 : (F.filter fun x => x.1 == num) = msgFs m ((ofKind m.k (rowsIn ver)).filter fun r => !((r.2.1 : Int) != num)) := by
      rw [e3, hF]; exact msgFs_rows _ _ _ fun r hr x hx => by rw [hrow r hr x hx]
    obtain ⟨Q, hQ⟩ : ∃ Q, Q = ((ofKind m.k (rowsIn ver)).filter fun r => (r.2.1 : Int) != num) ++ (ofKind m.k (rowsIn ver)).filter fun r => !((r.2.1 : Int) != num) := ⟨_, rfl⟩
    have f3 : (F.filter fun x => x.1 != num) ++ (F.filter fun x => x.1 == num) = msgFs m Q := by rw [f1, f2, hQ]; unfold msgFs; rw [List.flatMap_append]
    have hQm : ∀ r ∈ Q, r ∈ ofKind m.k (rowsIn ver) := fun r hr => by
      rw [hQ] at hr
      rcases List.mem_append.1 hr with hr | hr
      · exact (List.mem_filter.1 hr).1
      · exact (List.mem_filter.1 hr).1
    have hpw : Q.Pairwise (fun r r' => ¬ (r.2.2.1 = 10 ∧ r'.2.2.1 = 10)) := by
      rw [hQ, List.pairwise_append]
      refine ⟨List.Pairwise.sublist List.filter_sublist (of_lists m.k ver), List.Pairwise.sublist List.filter_sublist (of_lists m.k ver), fun r hr r' hr' => ?_⟩
      rintro ⟨u1, u2⟩
      have := same_row (List.mem_filter.1 hr).1 (List.mem_filter.1 hr').1 (.inr (.inr ⟨by omega, by omega⟩))
      subst this
      have v1 := (List.mem_filter.1 hr).2
      have v2 := (List.mem_filter.1 hr').2
      rw [v1] at v2; cases v2
    rw [hb, f3] at d1 d2
    have hd := dec_rows (m := m) (k := m.k) (ver := ver) hn Q [] hQm (fun r hr => ea r (hQm r hr)) (fun _ _ _ => rfl) hpw
    rw [List.nil_append, clean_nil] at hd
    rw [hd] at d1 d2
    simp only at d1 d2
    rw [f3]
    have hcl : cleanM m Q = cleanM m (ofKind m.k (rowsIn ver)) := by rw [hQ, clean_split]
    have hs : sameB (decM m.k ver (bytesFs (msgFs m Q))).1 m = true := by rw [d1]; show sameB (cleanM m Q) m = true; rw [hcl]; exact ca
    obtain ⟨g1, g2, g3⟩ := dec_good d2
    have hown : msgB (decM m.k ver (bytesFs (msgFs m Q))).1 (ofKind m.k (rowsIn ver)) = msgB m (ofKind m.k (rowsIn ver)) := msgB_same hs (by rw [g2]) h
    have hsi := str_iff d2
    rw [hown] at hsi
    refine ⟨d2, hs, ?_, fun h0 => ?_⟩
    · rcases hsi with ⟨s1, s2⟩ | ⟨s1, s2, s3⟩
      · rw [s1]; exact ⟨fun _ => s2.symm, fun _ => rfl⟩
      · rw [s2]; exact ⟨fun e => by simp at e, fun e => absurd e.symm s3⟩
    · rcases hsi with ⟨s1, s2⟩ | ⟨s1, s2, s3⟩
      · rw [s1]; exact hs
      · rw [s2] at h0; simp at h0
/-! ## fixed -/
theorem vput_mono : ∀ (k a b : Nat), b < 128 ^ (k + 1) → a ≤ b → (vput a).length ≤ (vput b).length
  | 0, a, b, hb, h => by rw [vput_small a (by omega), vput_small b (by omega)]; simp
  | k + 1, a, b, hb, h => by
    by_cases hs : a < 128
    · rw [vput_small a hs]; exact vput_pos b
    · rw [vput_big a hs, vput_big b (by omega)]
      simp only [List.length_cons]
      have := vput_mono k (a / 128) (b / 128) (by rw [Nat.div_lt_iff_lt_mul (by omega)]; rw [Nat.pow_succ] at hb; exact hb) (Nat.div_le_div_right h)
      omega
theorem vput_mono64 {a b : Nat} (hb : b < 18446744073709551616) (h : a ≤ b) : (vput a).length ≤ (vput b).length := vput_mono 9 a b (by omega) h
theorem zig_zagN {n : Nat} (h : n < 18446744073709551616) : zigN (wrap64 (zagN n : Nat)) = n := by
  unfold zagN zigN wrap64
  split <;> split <;> omega
theorem numV_le {t : Int} {n : Nat} (h : n < 18446744073709551616) : (if t = 3 then zigN (wrap64 (numV t n : Nat)) else numV t n) ≤ n := by
  unfold numV
  by_cases h3 : t = 3
  · rw [if_pos h3, if_neg (by omega), if_neg (by omega), if_pos h3, zig_zagN h]; exact Nat.le_refl _
  · rw [if_neg h3]
    split
    · exact Nat.mod_le _ _
    split
    · exact Nat.min_le_left _ _
    · exact Nat.le_refl _
theorem rowFs_list {m : Msg} {r : Row} (h10 : (r.2.2.1 : Int) = 10) : rowFs m r = m.l.map fun x => (((r.2.1 : Nat) : Int), 2, 0, sB x, 0) := by
  unfold rowFs
  split
  · rename_i hd
    obtain ⟨-, -, e3⟩ := def_zero hd
    unfold plL at e3
    rw [if_pos h10] at e3
    rw [e3]; rfl
  · rfl
/-- a put field's bytes by its parts -/
theorem putF_mono {x y : Fld} (h1 : fNum x = fNum y) (h2 : fWire x = fWire y) (hx : (putF x).2 = 0) (hy : (putF y).2 = 0) (hv : (valB y).length ≤ (valB x).length) : (putF y).1.length ≤ (putF x).1.length := by
  obtain ⟨-, -, ex⟩ := putF_ok hx
  obtain ⟨-, -, ey⟩ := putF_ok hy
  rw [ex, ey, h1, h2]
  simp only [List.length_append]
  omega
/-- a row's bytes behind one field more -/
theorem set_row_len {k : Nat} {ver : Int} {s : Msg} {r : Row} {x : Fld} (hr : r ∈ ofKind k (rowsIn ver)) (hi : Inv (ofKind k (rowsIn ver)) k s) (hx : x.ok ∧ (putF x).2 = 0) (h5 : fWire x = 5 → fN x < 4294967296) (hnum : fNum x = (r.2.1 : Int))
    (hw : (fWire x : Int) = (wireV r.2.2.1).1) (h : (setM s r.2.2.1 r.2.2.2.1 x).2 = 0) : (bytesFs (rowFs (setM s r.2.2.1 r.2.2.2.1 x).1 r)).length ≤ (bytesFs (rowFs s r)).length + (putF x).1.length := by
  have hra := (ofKind_sub hr).1
  obtain ⟨t1, t2, t3, t4⟩ := rows_ok r hra
  simp only [rTyp, rSlot] at t1 t2 t3 t4
  obtain ⟨w1, w2, -, -⟩ := rwireV_eq (t := (r.2.2.1 : Int)) (by omega) (by omega)
  have hi2 := set_inv hr hi hx.1.2.2.2 h5 hw h
  have hgood := (rowFs_good hra (hi2.err r hr) hi2.lt).1
  have hwn : fWire x = (rwireV (r.2.2.1 : Int)).toNat := by rw [w1] at hw; simp only at hw; omega
  rcases set_parts h with ⟨e, l1, c, q⟩ | ⟨e, l1, l2, c, q⟩ | ⟨e, l1, l2, q⟩
  · rw [rowFs_list e] at hgood ⊢
    rw [rowFs_list e]
    rw [q] at hgood ⊢
    rw [List.map_append, bytesFs_app, List.length_append]
    refine Nat.add_le_add_left ?_ _
    show (bytesFs [((((r.2.1 : Nat) : Int), 2, 0, sB (bS (fB x)), 0) : Fld)]).length ≤ _
    rw [sB_bS]
    have hg := hgood ((((r.2.1 : Nat) : Int), 2, 0, sB (bS (fB x)), 0)) (by simp)
    rw [sB_bS] at hg
    have e2 : fWire x = 2 := by rw [hwn, e]; rfl
    have e1 : bytesFs [((((r.2.1 : Nat) : Int), 2, 0, fB x, 0) : Fld)] = (putF (((r.2.1 : Nat) : Int), 2, 0, fB x, 0)).1 := by show _ ++ [] = _; rw [List.append_nil]
    rw [e1]
    refine putF_mono hnum (by rw [e2]) hx.2 hg.err ?_
    have ex : valB x = valB (fNum x, 2, fN x, fB x, fAt x) := by rw [← e2]
    rw [ex, valB_2, valB_2]; exact Nat.le_refl _
  · have hf := txtB_iff.1 e
    have hne : ¬ (r.2.2.1 : Int) = 10 := by omega
    obtain ⟨-, p2, -⟩ := pl_txt (m := (setM s r.2.2.1 r.2.2.2.1 x).1) e l1 l2
    rw [Int.toNat_natCast] at p2
    have p3 : (setM s r.2.2.1 r.2.2.2.1 x).1.s r.2.2.2.1 = bS (fB x) := by rw [q]; simp
    by_cases hd : defB (setM s r.2.2.1 r.2.2.2.1 x).1 r.2.2.1 r.2.2.2.1 = true
    · have : rowFs (setM s r.2.2.1 r.2.2.2.1 x).1 r = [] := by unfold rowFs; rw [if_pos hd]
      rw [this]; exact Nat.zero_le _
    · have hrow : rowFs (setM s r.2.2.1 r.2.2.2.1 x).1 r = [((((r.2.1 : Nat) : Int), (rwireV (r.2.2.1 : Int)).toNat, (if (r.2.2.1 : Int) = 3 then zigN (wrap64 (plN (setM s r.2.2.1 r.2.2.2.1 x).1 r.2.2.1 r.2.2.2.1)) else plN (setM s r.2.2.1 r.2.2.2.1 x).1 r.2.2.1 r.2.2.2.1), fB x, 0) : Fld)] := by
        unfold rowFs; rw [if_neg hd, if_neg hne, p2, p3, sB_bS]
      rw [hrow] at hgood ⊢
      have hg := hgood _ (List.mem_singleton.2 rfl)
      refine Nat.le_trans ?_ (Nat.le_add_left _ _)
      show ((putF _).1 ++ []).length ≤ _
      rw [List.append_nil]
      have e2 : fWire x = 2 := by
        rw [hwn]
        rcases (show (r.2.2.1 : Int) = 7 ∨ (r.2.2.1 : Int) = 8 ∨ (r.2.2.1 : Int) = 9 by omega) with z | z | z <;> (rw [z]; rfl)
      rw [← hwn, e2] at hg ⊢
      refine putF_mono hnum (by rw [e2]) hx.2 hg.err ?_
      have ex : valB x = valB (fNum x, 2, fN x, fB x, fAt x) := by rw [← e2]
      rw [ex, valB_2, valB_2]; exact Nat.le_refl _
  · have hf := numB_iff.1 e
    have hne : ¬ (r.2.2.1 : Int) = 10 := by omega
    obtain ⟨p1, p2, -⟩ := pl_num (m := (setM s r.2.2.1 r.2.2.2.1 x).1) e l1 l2
    rw [Int.toNat_natCast] at p1
    have p3 : (setM s r.2.2.1 r.2.2.2.1 x).1.n r.2.2.2.1 = numV (r.2.2.1 : Int) (fN x) := by rw [q]; simp
    by_cases hd : defB (setM s r.2.2.1 r.2.2.2.1 x).1 r.2.2.1 r.2.2.2.1 = true
    · have : rowFs (setM s r.2.2.1 r.2.2.2.1 x).1 r = [] := by unfold rowFs; rw [if_pos hd]
      rw [this]; exact Nat.zero_le _
    · have hrow : rowFs (setM s r.2.2.1 r.2.2.2.1 x).1 r = [((((r.2.1 : Nat) : Int), fWire x, (if (r.2.2.1 : Int) = 3 then zigN (wrap64 (numV (r.2.2.1 : Int) (fN x) : Nat)) else numV (r.2.2.1 : Int) (fN x)), [], 0) : Fld)] := by
        unfold rowFs; rw [if_neg hd, if_neg hne, p1, p2, p3, hwn]; rfl
      rw [hrow] at hgood ⊢
      have hg := hgood _ (List.mem_singleton.2 rfl)
      refine Nat.le_trans ?_ (Nat.le_add_left _ _)
      show ((putF _).1 ++ []).length ≤ _
      rw [List.append_nil]
      refine putF_mono hnum rfl hx.2 hg.err ?_
      have hle := numV_le (t := (r.2.2.1 : Int)) hx.1.2.2.2
      rcases (show fWire x = 0 ∨ fWire x = 1 ∨ fWire x = 5 by
        rw [hwn]
        rcases (show (r.2.2.1 : Int) = 1 ∨ (r.2.2.1 : Int) = 2 ∨ (r.2.2.1 : Int) = 3 ∨ (r.2.2.1 : Int) = 4 ∨ (r.2.2.1 : Int) = 5 ∨ (r.2.2.1 : Int) = 6 by omega) with z | z | z | z | z | z <;> (rw [z]; decide)) with z | z | z
      · have ex : valB x = valB (fNum x, 0, fN x, fB x, fAt x) := by rw [← z]
        rw [ex, z, valB_0, valB_0]
        exact vput_mono64 hx.1.2.2.2 hle
      · have ex : valB x = valB (fNum x, 1, fN x, fB x, fAt x) := by rw [← z]
        rw [ex, z, valB_1, valB_1, fixB_length, fixB_length]; exact Nat.le_refl _
      · have ex : valB x = valB (fNum x, 5, fN x, fB x, fAt x) := by rw [← z]
        rw [ex, z, valB_5, valB_5, fixB_length, fixB_length]; exact Nat.le_refl _
/-- other rows stay -/
theorem set_other {k : Nat} {ver : Int} {s : Msg} {r r' : Row} {x : Fld} (hr : r ∈ ofKind k (rowsIn ver)) (hr' : r' ∈ ofKind k (rowsIn ver)) (hne : r ≠ r') (h : (setM s r.2.2.1 r.2.2.2.1 x).2 = 0) : rowFs (setM s r.2.2.1 r.2.2.2.1 x).1 r' = rowFs s r' := by
  obtain ⟨k1, k2⟩ := of_ne hr hr' hne
  obtain ⟨p1, p2, p3⟩ := rows_place r (ofKind_sub hr).1 r' (ofKind_sub hr').1 k1 k2
  have u2 := (of_ok hr').2.1
  simp only [rTyp] at u2
  refine rowFs_place ?_ ?_ ?_
  · unfold plN
    split
    · rename_i hh
      have := numB_iff.1 hh.1
      rcases set_parts h with ⟨e, -, -, q⟩ | ⟨e, -, -, -, q⟩ | ⟨e, -, -, q⟩
      · rw [q]
      · rw [q]
      · rw [q]
        have := numB_iff.1 e
        simp only
        rw [if_neg (fun c => p3 ⟨by omega, by omega, by omega⟩)]
    · rfl
  · unfold plS
    split
    · rename_i hh
      have := txtB_iff.1 hh.1
      rcases set_parts h with ⟨e, -, -, q⟩ | ⟨e, -, -, -, q⟩ | ⟨e, -, -, q⟩
      · rw [q]
      · rw [q]
        have := txtB_iff.1 e
        simp only
        rw [if_neg (fun c => p2 ⟨by omega, by omega, by omega, by omega, by omega⟩)]
      · rw [q]
    · rfl
  · unfold plL
    split
    · rename_i hh
      rcases set_parts h with ⟨e, -, -, q⟩ | ⟨e, -, -, -, q⟩ | ⟨e, -, -, q⟩
      · exact absurd ⟨by omega, by omega⟩ p1
      · rw [q]
      · rw [q]
    · rfl
theorem sum_len {a b : Row → List Fld} {r : Row} {c : Nat} : ∀ (L : List Row), (L.Pairwise fun x y => x.2.1 < y.2.1) → (∀ x ∈ L, r ≠ x → a x = b x) → (r ∈ L → (bytesFs (a r)).length ≤ (bytesFs (b r)).length + c) → (bytesFs (L.flatMap a)).length ≤ (bytesFs (L.flatMap b)).length + c
  | [], _, _, _ => by simp [bytesFs]
  | x :: L, hp, h1, h2 => by
    obtain ⟨p1, p2⟩ := List.pairwise_cons.1 hp
    simp only [List.flatMap_cons, bytesFs_app, List.length_append]
    by_cases e : r = x
    · subst e
      have e2 : L.flatMap a = L.flatMap b := flatMap_same fun y hy => h1 y (List.mem_cons_of_mem _ hy) (fun e => by have := p1 y hy; subst e; omega)
      rw [e2]
      have := h2 (List.mem_cons_self ..)
      omega
    · rw [h1 x (List.mem_cons_self ..) e]
      have := sum_len L p2 (fun y hy => h1 y (List.mem_cons_of_mem _ hy)) (fun hy => h2 (List.mem_cons_of_mem _ hy))
      omega
theorem dec_len {k : Nat} {ver : Int} : ∀ (l : List Fld) (s : Msg), (∀ x ∈ l, (x.ok ∧ (putF x).2 = 0) ∧ (fWire x = 5 → fN x < 4294967296)) → Inv (ofKind k (rowsIn ver)) k s → (decF k ver s l).2.1 = 0 →
    (bytesFs (msgFs (decF k ver s l).1 (ofKind k (rowsIn ver)))).length ≤ (bytesFs (msgFs s (ofKind k (rowsIn ver)))).length + (bytesFs l).length
  | [], s, _, _, _ => Nat.le_add_right _ _
  | x :: l, s, hx, hi, h => by
    have hx' := fun y hy => hx y (List.mem_cons_of_mem _ hy)
    have hbl : (bytesFs (x :: l)).length = (putF x).1.length + (bytesFs l).length := by show ((putF x).1 ++ bytesFs l).length = _; rw [List.length_append]
    rw [hbl]
    cases hb : belR k ver x with
    | none => rw [decF_skip hb] at h ⊢; have := dec_len l s hx' hi h; omega
    | some r =>
      obtain ⟨b1, b2, b3⟩ := belR_mem hb
      by_cases he : (setM s r.2.2.1 r.2.2.2.1 x).2 = 0
      · rw [decF_step hb he] at h ⊢
        have hxx := hx x (List.mem_cons_self ..)
        have ih := dec_len l _ hx' (set_inv b1 hi hxx.1.1.2.2.2 hxx.2 b3 he) h
        have hs := sum_len (a := rowFs (setM s r.2.2.1 r.2.2.2.1 x).1) (b := rowFs s) (r := r) (c := (putF x).1.length) (ofKind k (rowsIn ver)) (of_pair k ver) (fun y hy hne => set_other b1 hy hne he) (fun _ => set_row_len b1 hi hxx.1 hxx.2 b2 b3 he)
        have e1 : msgFs (setM s r.2.2.1 r.2.2.2.1 x).1 (ofKind k (rowsIn ver)) = (ofKind k (rowsIn ver)).flatMap (rowFs (setM s r.2.2.1 r.2.2.2.1 x).1) := rfl
        have e2 : msgFs s (ofKind k (rowsIn ver)) = (ofKind k (rowsIn ver)).flatMap (rowFs s) := rfl
        rw [← e1, ← e2] at hs
        omega
      · rw [decF_stop hb he] at h; exact absurd h he
theorem putsF_each : ∀ (l : List Fld) (i : Nat), (putsF i l).2.1 = 0 → ∀ x ∈ l, (putF x).2 = 0
  | [], _, _ => fun x hx => by cases hx
  | x :: l, i, h => by
    rw [putsF_cons] at h
    by_cases c : (putF x).2 ≠ 0
    · rw [if_pos c] at h; exact absurd h c
    rw [if_neg c] at h
    by_cases d : (putsF (i + 1) l).2.1 ≠ 0
    · rw [if_pos d] at h; exact absurd h d
    intro y hy
    rcases List.mem_cons.1 hy with rfl | hy
    · omega
    · exact putsF_each l (i + 1) (by omega) y hy
/-- what is fixed is no longer -/
theorem fix_len {k : Nat} {ver : Int} {b : List UInt8} (h : (decM k ver b).2.1 = 0) : (msgB (decM k ver b).1 (ofKind k (rowsIn ver))).length ≤ b.length := by
  have hg := dec_good h
  rw [msgB_eq (by rw [hg.2.1])]
  have hne : ofKind k (rowsIn ver) ≠ [] := fun e => by unfold decM at h; rw [if_pos e] at h; simp at h
  have h8 : ¬ 8192 < b.length := fun e => by unfold decM at h; rw [if_neg hne, if_pos e] at h; simp at h
  have hf : (fieldsR b).2.1 = 0 := by
    refine Classical.byContradiction fun c => ?_
    unfold decM at h; rw [if_neg hne, if_neg h8, if_pos c] at h; exact c h
  rw [decM_ne hne (by omega) hf] at h ⊢
  obtain ⟨a1, a2, -⟩ := fieldsR_again b hf
  have hpe := putsF_each _ 0 a1
  have e1 := putsF_all (fieldsR b).1 0 hpe
  rw [e1] at a2
  have hnum := fields_num hf
  have hok := fieldsR_ok b hf
  have := dec_len (fieldsR b).1 (m0 k) (fun x hx => ⟨⟨(hok x hx).1, hpe x hx⟩, (hnum x hx).2⟩) (inv_m0 k ver) h
  have e0 : msgFs (m0 k) (ofKind k (rowsIn ver)) = [] := by
    unfold msgFs
    rw [List.flatMap_eq_nil_iff]
    intro r _
    unfold rowFs; rw [if_pos (def_m0 k _ _)]
  rw [e0] at this
  have e3 : (bytesFs ([] : List Fld)).length = 0 := rfl
  rw [e3] at this
  simp only at a2
  omega
theorem putF_bd {x : Fld} (hx : x.ok) (h : (putF x).2 = 0) : (putF x).1.length ≤ 20 + (fB x).length := by
  obtain ⟨h1, h2, e⟩ := putF_ok h
  obtain ⟨-, -, hw, ht⟩ := tmake_ok h1
  rw [e]
  have v1 := vput_len10 _ ht
  have v2 : (valB x).length ≤ 10 + (fB x).length := by
    rcases wireB_or hw with z | z | z | z
    · have ex : valB x = valB (fNum x, 0, fN x, fB x, fAt x) := by rw [← z]
      rw [ex, valB_0]; have := vput_len10 _ hx.2.2.2; omega
    · have ex : valB x = valB (fNum x, 1, fN x, fB x, fAt x) := by rw [← z]
      rw [ex, valB_1, fixB_length]; omega
    · have ex : valB x = valB (fNum x, 2, fN x, fB x, fAt x) := by rw [← z]
      have := h2 z
      rw [ex, valB_2, List.length_append]; have := vput_len10 (fB x).length (by omega); omega
    · have ex : valB x = valB (fNum x, 5, fN x, fB x, fAt x) := by rw [← z]
      rw [ex, valB_5, fixB_length]; omega
  simp only [List.length_append]
  omega
/-- unknown fields behind what is fixed -/
theorem more_law {k : Nat} {ver : Int} {b : List UInt8} (h : (decM k ver b).2.1 = 0) (hb : b.length ≤ 4000) {more : List Fld} (hm : more.length ≤ 20) (hok : ∀ x ∈ more, x.ok ∧ (fB x).length ≤ 100 ∧ 7 < fNum x) (hp : (putsF 0 more).2.1 = 0) :
    (decM k ver (msgB (decM k ver b).1 (ofKind k (rowsIn ver)) ++ (putsF 0 more).1)).2.1 = 0 ∧ sameB (decM k ver (msgB (decM k ver b).1 (ofKind k (rowsIn ver)) ++ (putsF 0 more).1)).1 (decM k ver b).1 = true ∧
    (unkM k ver (msgB (decM k ver b).1 (ofKind k (rowsIn ver)) ++ (putsF 0 more).1)).2.1 = 0 ∧ (unkM k ver (msgB (decM k ver b).1 (ofKind k (rowsIn ver)) ++ (putsF 0 more).1)).1.length = more.length := by
  have hfl := fix_len h
  obtain ⟨g1, g2, g3⟩ := dec_good h
  obtain ⟨n, hn⟩ : ∃ n, n = (decM k ver b).1 := ⟨_, rfl⟩
  rw [← hn] at g1 g2 g3 hfl ⊢
  subst g1
  obtain ⟨a1, a2, a3, a4, a5⟩ := msg_good (m := n) (ver := ver) (by rw [g2]) g3
  obtain ⟨ea, ca⟩ := chk_oks (m := n) (L := ofKind n.k (rowsIn ver)) (by rw [g2])
  have hpe := putsF_each more 0 hp
  rw [putsF_all more 0 hpe, a1]
  show (decM n.k ver (bytesFs _ ++ bytesFs more)).2.1 = 0 ∧ sameB (decM n.k ver (bytesFs _ ++ bytesFs more)).1 n = true ∧ (unkM n.k ver (bytesFs _ ++ bytesFs more)).2.1 = 0 ∧ (unkM n.k ver (bytesFs _ ++ bytesFs more)).1.length = more.length
  rw [← bytesFs_app]
  have hml : (bytesFs more).length ≤ 2400 := by
    have := flat_len (l := more) (c := 120) (fun x hx => by have := putF_bd (hok x hx).1 (hpe x hx); have := (hok x hx).2.1; omega)
    omega
  have hgo : ∀ x ∈ msgFs n (ofKind n.k (rowsIn ver)) ++ more, x.ok ∧ (putF x).2 = 0 := fun x hx => by
    rcases List.mem_append.1 hx with hx | hx
    · exact a3 x hx
    · exact ⟨(hok x hx).1, hpe x hx⟩
  have hl8 : (bytesFs (msgFs n (ofKind n.k (rowsIn ver)) ++ more)).length ≤ 8192 := by
    rw [bytesFs_app, List.length_append, ← a1]; omega
  obtain ⟨d1, d2⟩ := dec_fs (k := n.k) (ver := ver) a2 hl8 hgo
  have hbn : ∀ x ∈ more, belR n.k ver x = none := fun x hx => by
    cases hb : belR n.k ver x with
    | none => rfl
    | some r =>
      exfalso
      obtain ⟨b1, b2, -⟩ := belR_mem hb
      have := (rows_num r (ofKind_sub b1).1).2
      have := (hok x hx).2.2
      omega
  have hbare : ∀ x : Fld, fNum (bareF x) = fNum x ∧ fWire (bareF x) = fWire x := fun x => by unfold bareF; split; exact ⟨rfl, rfl⟩; split <;> exact ⟨rfl, rfl⟩
  have hbb : ∀ x : Fld, belR n.k ver (bareF x) = belR n.k ver x := fun x => by unfold belR; rw [(hbare x).1, (hbare x).2]
  have hnone : (more.map bareF).filter (fun x => (belR n.k ver x).isSome) = [] := by
    rw [List.filter_eq_nil_iff]
    intro x hx
    obtain ⟨y, hy, rfl⟩ := List.mem_map.1 hx
    rw [hbb, hbn y hy]; simp
  have hall : (msgFs n (ofKind n.k (rowsIn ver))).filter (fun x => (belR n.k ver x).isSome) = msgFs n (ofKind n.k (rowsIn ver)) := by
    rw [List.filter_eq_self]
    intro x hx
    obtain ⟨r, hr, hxr⟩ := List.mem_flatMap.1 hx
    rw [bel_row hr hxr, decide_eq_true hr]
  rw [List.map_append, a4, decF_filter, List.filter_append, hnone, hall, List.append_nil] at d1 d2
  have hd := dec_rows (m := n) (k := n.k) (ver := ver) g3 (ofKind n.k (rowsIn ver)) [] (fun r hr => hr) ea (fun _ _ _ => rfl) (of_lists _ _)
  rw [List.nil_append, clean_nil] at hd
  rw [hd] at d1 d2
  simp only at d1 d2
  refine ⟨d2, by rw [d1]; exact ca, ?_, ?_⟩
  · unfold unkM; rw [if_neg (by omega)]
  · unfold unkM; rw [if_neg (by omega)]
    show (List.filter _ _).length = _
    have hst := (read_fs hgo).2
    have e1 : ∀ l : List Fld, (l.filter fun x => (belR n.k ver x).isNone).length = ((l.map stF).filter fun x => (belR n.k ver x).isNone).length := fun l => by
      rw [List.filter_map, List.length_map]; rfl
    rw [e1, hst, ← e1, List.map_append, a4, List.filter_append, List.length_append]
    have z1 : ((msgFs n (ofKind n.k (rowsIn ver))).filter fun x => (belR n.k ver x).isNone) = [] := by
      rw [List.filter_eq_nil_iff]
      intro x hx
      have h8 := List.filter_eq_self.1 hall x hx
      intro h9
      cases hq : belR n.k ver x with
      | none => rw [hq] at h8; simp at h8
      | some r => rw [hq] at h9; simp at h9
    have z2 : ((more.map bareF).filter fun x => (belR n.k ver x).isNone) = more.map bareF := by
      rw [List.filter_eq_self]
      intro x hx
      obtain ⟨y, hy, rfl⟩ := List.mem_map.1 hx
      rw [hbb, hbn y hy]; rfl
    rw [z1, z2, List.length_map]
    simp
end Go.Proofs.Ytbjoohafgkodcaa
