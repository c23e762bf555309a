/- Messages that may be: how many bytes they have, and which fields; messages with the same bytes are alike. No walk. ; A message's fields in plain words: what its bytes are, and what they are read as. No walk. -/
import Derived.Test.YtbjoohafgkodcaaGreatEn9
import Derived.Test.YtbjoohafgkodcaaGreatVa9
namespace Go.Proofs.YtbjoohafgkodcaaGreat
open Go Go.RowKit Go.Shelf

/-- a row's fields -/
def rowFs (m : Msg) (r : Row) : List Fld :=
  if defB m r.2.2.1 r.2.2.2.1 = true then []
  else if (r.2.2.1 : Int) = 10 then m.l.map fun s => ((r.2.1 : Int), 2, 0, sB s, 0)
  else [((r.2.1 : Int), (rwireV r.2.2.1).toNat, if (r.2.2.1 : Int) = 3 then zigN (wrap64 (plN m r.2.2.1 r.2.2.2.1)) else plN m r.2.2.1 r.2.2.2.1, sB (plS m r.2.2.1 r.2.2.2.1), 0)]
/-- a message's fields -/
def msgFs (m : Msg) (L : List Row) : List Fld := L.flatMap (rowFs m)
/-- the bytes of fields -/
def bytesFs (l : List Fld) : List UInt8 := (l.map fun x => (putF x).1).flatten
theorem listF_fs (num : Int) (l : List ByteArray) : listF num l = bytesFs (l.map fun s => (num, 2, 0, sB s, 0)) := by
  induction l with
  | nil => rfl
  | cons s l ih => show _ ++ listF num l = _ ++ _; rw [ih]; rfl
theorem fR_fs (m : Msg) (r : Row) : fR m r = bytesFs (rowFs m r) := by
  unfold fR rowFs
  by_cases hd : defB m r.2.2.1 r.2.2.2.1 = true
  · rw [if_pos hd, fieldF_def hd]; rfl
  have hd' : defB m r.2.2.1 r.2.2.2.1 = false := by simpa using hd
  rw [if_neg hd]
  by_cases h10 : (r.2.2.1 : Int) = 10
  · rw [if_pos h10]
    rw [h10] at hd' ⊢
    rw [fieldF_list hd', listF_fs]
  · rw [if_neg h10, fieldF_has hd' h10]
    show _ = _ ++ []
    rw [List.append_nil]
theorem msgB_fs (m : Msg) (L : List Row) : (L.map (fR m)).flatten = bytesFs (msgFs m L) := by
  unfold msgFs
  induction L with
  | nil => rfl
  | cons r L ih =>
    show fR m r ++ _ = _
    rw [ih, fR_fs, List.flatMap_cons]
    unfold bytesFs
    rw [List.map_append, List.flatten_append]
theorem putsF_all : ∀ (l : List Fld) (i : Nat), (∀ x ∈ l, (putF x).2 = 0) → putsF i l = (bytesFs l, 0, 0)
  | [], i, _ => rfl
  | x :: l, i, h => by
    have h1 := h x (List.mem_cons_self ..)
    have h2 := putsF_all l (i + 1) fun y hy => h y (List.mem_cons_of_mem _ hy)
    rw [putsF_cons, if_neg (by omega), h2, if_neg (by simp)]
    rfl
/-! ## rows -/
theorem rows_num : ∀ r ∈ rowsAll, 1 ≤ r.2.1 ∧ r.2.1 ≤ 7 := by decide
theorem rows_uniq : ∀ r ∈ rowsAll, ∀ r' ∈ rowsAll, r.1 = r'.1 → r.2.1 = r'.2.1 → r = r' := by decide
theorem rows_pair : rowsAll.Pairwise fun r r' => r.1 = r'.1 → r.2.1 < r'.2.1 := by decide
theorem of_pair (k : Nat) (ver : Int) : (ofKind k (rowsIn ver)).Pairwise fun r r' => r.2.1 < r'.2.1 := by
  have h1 : (ofKind k (rowsIn ver)).Pairwise fun r r' => r.1 = r'.1 → r.2.1 < r'.2.1 := by
    unfold ofKind rowsIn
    refine List.Pairwise.filter _ ?_
    split
    · exact List.Pairwise.nil
    · exact List.Pairwise.filter _ rows_pair
  refine List.Pairwise.imp_of_mem (fun {a b} ha hb h => ?_) h1
  have e1 := (ofKind_sub ha).2
  have e2 := (ofKind_sub hb).2
  exact h (by rw [e1, e2])
theorem of_find {k : Nat} {ver : Int} {r : Row} (h : r ∈ ofKind k (rowsIn ver)) : (rowsIn ver).find? (isField k (r.2.1 : Int)) = some r := by
  have hs := ofKind_sub h
  have hr : r ∈ rowsIn ver := by unfold ofKind at h; exact (List.mem_filter.1 h).1
  have hp : isField k (r.2.1 : Int) r = true := by unfold isField; simp [hs.2]
  cases hf : (rowsIn ver).find? (isField k (r.2.1 : Int)) with
  | none =>
    have := List.find?_eq_none.1 hf r hr
    exact absurd hp this
  | some r' =>
    have hp' := List.find?_some hf
    have hm' := List.mem_of_find?_eq_some hf
    unfold isField at hp'
    simp at hp'
    have hr' : r' ∈ rowsAll := by
      unfold rowsIn at hm'
      split at hm'
      · cases hm'
      · exact (List.mem_filter.1 hm').1
    rw [rows_uniq r' hr' r hs.1 (by rw [hp'.1, hs.2]) (by omega)]
/-! ## what a message that may be has -/
theorem chk_oks {m : Msg} {L : List Row} (h : (chkM m L).1 = 0) : (∀ r ∈ L, errR m r = 0) ∧ sameB (cleanM m L) m = true := by
  unfold chkM at h
  split at h
  · simp at h
  split at h
  · rename_i r hf
    have := List.find?_some hf
    simp at this h
    exact absurd h this
  · rename_i hf
    refine ⟨fun r hr => ?_, ?_⟩
    · have := List.find?_eq_none.1 hf r hr
      simpa using this
    · split at h
      · assumption
      · simp at h
theorem err_one {m : Msg} {t sl : Int} (h : errM m t sl = 0) : ((t = 1 ∨ t = 5) → plN m t sl ≤ 4294967295) ∧ (t = 4 → plN m t sl ≤ 1) := by
  unfold errM at h
  by_cases h1 : ((t = 1 ∨ t = 5) ∧ 4294967295 < plN m t sl) ∨ (t = 4 ∧ 1 < plN m t sl)
  · rw [if_pos h1] at h; simp at h
  · omega
theorem chkV_sz {s : ByteArray} {most : Int} (h : chkV s most = 0) : (s.size : Int) ≤ most := by
  unfold chkV at h
  by_cases h1 : most < s.size
  · rw [if_pos h1] at h; simp at h
  · omega
theorem firstE_sz {most : Int} : ∀ {l : List ByteArray}, firstE most l = 0 → ∀ s ∈ l, chkV s most = 0
  | [], _, s, hs => by cases hs
  | x :: l, h, s, hs => by
    unfold firstE at h
    by_cases c : chkV x most = 0
    · rw [if_pos c] at h
      rcases List.mem_cons.1 hs with rfl | hs
      · exact c
      · exact firstE_sz h s hs
    · rw [if_neg c] at h; exact absurd h c
/-- a row's bytes at most -/
def capT (t : Nat) : Nat := if t ≤ 6 then 11 else if t = 7 then 66 else if t = 8 then 4099 else if t = 9 then 7003 else 4224
theorem vput1 {n : Nat} (h : n < 128) : (vput n).length = 1 := by rw [vput_small n h]; rfl
theorem vput2 {n : Nat} (h : n < 16384) : (vput n).length ≤ 2 := vput_len 1 n (by omega)
/-- a field that a message that may be has -/
structure GoodF (r : Row) (x : Fld) : Prop where
  ok : x.ok
  err : (putF x).2 = 0
  bare : bareF x = x
  num : fNum x = (r.2.1 : Int)
  wire : (fWire x : Int) = (wireV r.2.2.1).1
  good : (wireV r.2.2.1).2 = true
  pos : fAt x = 0
theorem sz_putF {num W N : Nat} {b : List UInt8} (h7 : num ≤ 7) (hw : W ≤ 5) (h : (putF ((num : Int), W, N, b, 0)).2 = 0) : (putF ((num : Int), W, N, b, 0)).1.length = 1 + (valB ((num : Int), W, N, b, 0)).length := by
  obtain ⟨h1, -, h3⟩ := putF_ok h
  rw [h3]
  simp only [fNum, fWire] at h1 ⊢
  obtain ⟨t1, t2, t3, -⟩ := tmake_ok h1
  have e : (tmake (num : Int) W).1 = 8 * num + W := by
    unfold tmake; rw [if_neg (by omega), if_neg (by rw [t3]; decide)]; simp
  rw [List.length_append, e, vput1 (by omega)]
theorem plN_no {m : Msg} {t sl : Int} (h : ¬ numB t = true) : plN m t sl = 0 := by unfold plN; rw [if_neg (fun e => h e.1)]
theorem plS_no {m : Msg} {t sl : Int} (h : ¬ txtB t = true) : plS m t sl = ⟨#[]⟩ := by unfold plS; rw [if_neg (fun e => h e.1)]
theorem numB_iff {t : Int} : numB t = true ↔ 1 ≤ t ∧ t ≤ 6 := by unfold numB; simp
theorem txtB_iff {t : Int} : txtB t = true ↔ 7 ≤ t ∧ t ≤ 9 := by unfold txtB; simp
theorem rwireV_t {t : Int} : rwireV t = if t ≤ 4 then 0 else if t = 5 then 5 else if t = 6 then 1 else 2 := rfl
theorem flat_len {l : List Fld} {c : Nat} (h : ∀ x ∈ l, (putF x).1.length ≤ c) : (bytesFs l).length ≤ l.length * c := by
  induction l with
  | nil => exact Nat.zero_le _
  | cons x l ih =>
    have h1 := h x (List.mem_cons_self ..)
    have h2 := ih fun y hy => h y (List.mem_cons_of_mem _ hy)
    show ((putF x).1 ++ bytesFs l).length ≤ _
    rw [List.length_append, List.length_cons, Nat.add_mul]; omega
theorem rowFs_good {m : Msg} {r : Row} (hr : r ∈ rowsAll) (he : errR m r = 0) (hn : ∀ i, i < 6 → m.n i < 18446744073709551616) : (∀ x ∈ rowFs m r, GoodF r x) ∧ (bytesFs (rowFs m r)).length ≤ capT r.2.2.1 := by
  obtain ⟨h1, h7⟩ := rows_num r hr
  obtain ⟨t1, t10, -, -⟩ := rows_ok r hr
  obtain ⟨kd, nm, ty, sl, si⟩ := r
  simp only [rTyp] at h1 h7 t1 t10
  have he' : errM m (ty : Int) (sl : Int) = 0 := he
  obtain ⟨w1, w2, w3, w4⟩ := rwireV_eq (t := (ty : Int)) (by omega) (by omega)
  have hw5 : (rwireV (ty : Int)).toNat ≤ 5 := by rcases wireB_or w3 with e | e | e | e <;> omega
  have hnum : ¬ ((nm : Int) < 1 ∨ 536870911 < (nm : Int)) := by omega
  have hgood : ∀ (Z : Nat) (b : List UInt8), Z < 18446744073709551616 → b.length ≤ 8192 → bareF ((nm : Int), (rwireV (ty : Int)).toNat, Z, b, 0) = ((nm : Int), (rwireV (ty : Int)).toNat, Z, b, 0) → GoodF (kd, nm, ty, sl, si) ((nm : Int), (rwireV (ty : Int)).toNat, Z, b, 0) := fun Z b hZ hb hbare => by
    refine ⟨⟨by show -9223372036854775808 ≤ (nm : Int); omega, by show (nm : Int) ≤ _; omega, w4, hZ⟩, ?_, hbare, rfl, ?_, by show (wireV (ty : Int)).2 = true; rw [w1], rfl⟩
    · have e := tmake_good (num := (nm : Int)) hnum w3
      unfold putF
      rw [if_neg (by simp only [fNum, fWire]; rw [e]; decide), if_neg (by simp only [fWire, fB]; omega)]
    · show (((rwireV (ty : Int)).toNat : Nat) : Int) = (wireV (ty : Int)).1
      rw [w1]; exact w2.symm
  unfold rowFs
  simp only
  by_cases hd : defB m ty sl = true
  · rw [if_pos hd]; exact ⟨fun x h => (by cases h), Nat.zero_le _⟩
  rw [if_neg hd]
  by_cases h10 : (ty : Int) = 10
  · rw [if_pos h10]
    have he2 : errM m 10 (sl : Int) = 0 := by rw [← h10]; exact he'
    rw [err_list] at he2
    have hlen : m.l.length ≤ 64 := by
      by_cases c : 64 < m.l.length
      · rw [if_pos c] at he2; simp at he2
      · omega
    rw [if_neg (by omega)] at he2
    have hw2 : (rwireV (ty : Int)).toNat = 2 := by rw [h10]; rfl
    have hg : ∀ s ∈ m.l, GoodF (kd, nm, ty, sl, si) ((nm : Int), 2, 0, sB s, 0) ∧ (putF ((nm : Int), 2, 0, sB s, 0)).1.length ≤ 66 := fun s hs => by
      have hz := chkV_sz (firstE_sz he2 s hs)
      have hsl := sB_len s
      have g := hgood 0 (sB s) (by omega) (by omega) (by rw [hw2]; rfl)
      rw [hw2] at g
      refine ⟨g, ?_⟩
      rw [sz_putF h7 (by omega) g.err]
      show 1 + (vput (sB s).length ++ sB s).length ≤ 66
      rw [List.length_append, vput1 (by omega)]; omega
    refine ⟨fun x hx => ?_, ?_⟩
    · obtain ⟨s, hs, rfl⟩ := List.mem_map.1 hx
      exact (hg s hs).1
    · have := flat_len (l := m.l.map fun s => ((nm : Int), 2, 0, sB s, 0)) (c := 66) (fun x hx => by obtain ⟨s, hs, rfl⟩ := List.mem_map.1 hx; exact (hg s hs).2)
      rw [List.length_map] at this
      have e : capT ty = 4224 := by unfold capT; rw [if_neg (by omega), if_neg (by omega), if_neg (by omega), if_neg (by omega)]
      rw [e]; omega
  rw [if_neg h10]
  have hN := plN_lt (m := m) (t := (ty : Int)) (sl := (sl : Int)) hn
  by_cases hx : txtB (ty : Int) = true
  · have hf := txtB_iff.1 hx
    have e0 : plN m (ty : Int) (sl : Int) = 0 := plN_no (fun h => by have := numB_iff.1 h; omega)
    have hw2 : (rwireV (ty : Int)).toNat = 2 := by rw [rwireV_t, if_neg (by omega), if_neg (by omega), if_neg (by omega)]; rfl
    rw [if_neg (by omega), e0]
    have hz : ((plS m (ty : Int) (sl : Int)).size : Int) ≤ mostV (ty : Int) := by
      unfold errM at he'
      rw [if_neg (by omega), if_pos hx] at he'
      exact chkV_sz he'
    have hsl := sB_len (plS m (ty : Int) (sl : Int))
    generalize (plS m (ty : Int) (sl : Int)).size = zz at hz hsl
    generalize sB (plS m (ty : Int) (sl : Int)) = b at hsl ⊢
    have hb : b.length ≤ 7000 ∧ ((ty : Int) = 7 → b.length ≤ 64) ∧ ((ty : Int) = 8 → b.length ≤ 4096) := by
      unfold mostV at hz
      rcases (show (ty : Int) = 7 ∨ (ty : Int) = 8 ∨ (ty : Int) = 9 by omega) with e | e | e <;> rw [e] at hz <;> simp at hz <;> omega
    have g := hgood 0 b (by omega) (by omega) (by rw [hw2]; rfl)
    refine ⟨fun x h => by rw [List.mem_singleton.1 h]; exact g, ?_⟩
    show (_ ++ []).length ≤ _
    rw [List.append_nil, sz_putF h7 hw5 g.err, hw2]
    show 1 + (vput b.length ++ b).length ≤ _
    rw [List.length_append]
    have hv2 := vput2 (n := b.length) (by omega)
    unfold capT
    rw [if_neg (by omega)]
    by_cases c7 : ty = 7
    · rw [if_pos c7, vput1 (by have := hb.2.1 (by omega); omega)]; have := hb.2.1 (by omega); omega
    rw [if_neg c7]
    by_cases c8 : ty = 8
    · rw [if_pos c8]; have := hb.2.2 (by omega); omega
    rw [if_neg c8, if_pos (by omega)]; omega
  · have hty : ty ≤ 6 := by
      by_cases c : 7 ≤ (ty : Int) ∧ (ty : Int) ≤ 9
      · exact absurd (txtB_iff.2 c) hx
      · omega
    rw [plS_no hx, sB_nil]
    have hZ : (if (ty : Int) = 3 then zigN (wrap64 (plN m (ty : Int) (sl : Int))) else plN m (ty : Int) (sl : Int)) < 18446744073709551616 ∧ ((ty : Int) = 5 → (if (ty : Int) = 3 then zigN (wrap64 (plN m (ty : Int) (sl : Int))) else plN m (ty : Int) (sl : Int)) ≤ 4294967295) := by
      split
      · exact ⟨zigN_wrap_lt _, fun h => by omega⟩
      · exact ⟨hN, fun h => (err_one he').1 (.inr h)⟩
    generalize (if (ty : Int) = 3 then zigN (wrap64 (plN m (ty : Int) (sl : Int))) else plN m (ty : Int) (sl : Int)) = Z at hZ ⊢
    have hwt := rwireV_t (t := (ty : Int))
    have g := hgood Z [] hZ.1 (by simp) (by
      unfold bareF
      simp only [fWire, fNum, fN, fB, fAt]
      rw [if_neg (by rw [hwt]; split <;> (try split) <;> (try split) <;> omega)]
      by_cases h5 : (ty : Int) = 5
      · rw [if_pos (by rw [h5]; rfl), Nat.mod_eq_of_lt (by have := hZ.2 h5; omega)]
      · rw [if_neg (by rw [hwt]; split <;> (try split) <;> (try split) <;> omega)])
    refine ⟨fun x h => by rw [List.mem_singleton.1 h]; exact g, ?_⟩
    show (_ ++ []).length ≤ _
    rw [List.append_nil, sz_putF h7 hw5 g.err]
    have e : capT ty = 11 := by unfold capT; rw [if_pos hty]
    rw [e]
    have hv : (valB ((nm : Int), (rwireV (ty : Int)).toNat, Z, ([] : List UInt8), 0)).length ≤ 10 := by
      unfold valB
      simp only [fWire, fN, fB]
      split
      · exact vput_le10 _ hZ.1
      split
      · rw [fixB_length]; omega
      split
      · rw [fixB_length]; omega
      · rename_i a1 a2 a3
        exfalso
        rcases wireB_or w3 with e | e | e | e
        · exact a1 e
        · exact a2 e
        · rw [hwt] at e; revert e; split <;> (try split) <;> (try split) <;> omega
        · exact a3 e
    omega
end Go.Proofs.YtbjoohafgkodcaaGreat
namespace Go.Proofs.YtbjoohafgkodcaaGreat
open Go Go.RowKit Go.Shelf

theorem sum_filter (f : Row → Nat) (p : Row → Bool) (l : List Row) : ((l.filter p).map f).sum ≤ (l.map f).sum := by
  induction l with
  | nil => exact Nat.le_refl _
  | cons r l ih =>
    rw [List.map_cons, List.sum_cons]
    cases h : p r with
    | true => rw [List.filter_cons_of_pos h, List.map_cons, List.sum_cons]; omega
    | false => rw [List.filter_cons_of_neg (by simp [h])]; omega
theorem caps10 : ∀ k, k < 11 → ((ofKind k rowsAll).map fun r => capT r.2.2.1).sum ≤ 8192 := by decide
theorem rows_kind : ∀ r ∈ rowsAll, r.1 < 11 := by decide
theorem caps (k : Nat) : ((ofKind k rowsAll).map fun r => capT r.2.2.1).sum ≤ 8192 := by
  by_cases h : k < 11
  · exact caps10 k h
  · have : ofKind k rowsAll = [] := by
      unfold ofKind
      rw [List.filter_eq_nil_iff]
      intro r hr
      have := rows_kind r hr
      simp; omega
    rw [this]; exact Nat.zero_le _
theorem bytesFs_app (a b : List Fld) : bytesFs (a ++ b) = bytesFs a ++ bytesFs b := by unfold bytesFs; rw [List.map_append, List.flatten_append]
theorem msgFs_len {m : Msg} {L : List Row} (h : ∀ r ∈ L, (bytesFs (rowFs m r)).length ≤ capT r.2.2.1) : (bytesFs (msgFs m L)).length ≤ (L.map fun r => capT r.2.2.1).sum := by
  induction L with
  | nil => exact Nat.zero_le _
  | cons r L ih =>
    have h1 := h r (List.mem_cons_self ..)
    have h2 := ih fun y hy => h y (List.mem_cons_of_mem _ hy)
    unfold msgFs at h2 ⊢
    rw [List.flatMap_cons, bytesFs_app, List.length_append, List.map_cons, List.sum_cons]
    omega
theorem rowFs_num {m : Msg} {r : Row} {x : Fld} (h : x ∈ rowFs m r) : fNum x = (r.2.1 : Int) := by
  unfold rowFs at h
  split at h
  · cases h
  split at h
  · obtain ⟨s, -, rfl⟩ := List.mem_map.1 h; rfl
  · rw [List.mem_singleton.1 h]
/-- a later field's number is greater, or it is the same list's -/
def upR (L : List Row) (x y : Fld) : Prop := fNum x < fNum y ∨ (fNum x = fNum y ∧ ∀ r ∈ L, (r.2.1 : Int) = fNum y → r.2.2.1 = 10)
theorem msgFs_up (m : Msg) (k : Nat) (ver : Int) : (msgFs m (ofKind k (rowsIn ver))).Pairwise (upR (ofKind k (rowsIn ver))) := by
  unfold msgFs
  rw [List.pairwise_flatMap]
  refine ⟨fun a ha => ?_, ?_⟩
  · unfold rowFs
    split
    · exact List.Pairwise.nil
    split
    · rename_i h10
      rw [List.pairwise_map]
      refine List.Pairwise.imp (R := fun _ _ => True) (fun _ => .inr ⟨rfl, fun r hr e => ?_⟩) (List.pairwise_of_forall (fun _ _ => True.intro))
      have e1 := ofKind_sub ha
      have e2 := ofKind_sub hr
      rw [rows_uniq r e2.1 a e1.1 (by rw [e1.2, e2.2]) (by simp only [fNum] at e; omega)]
      omega
    · exact List.pairwise_singleton _ _
  · refine List.Pairwise.imp (fun {a b} h x hx y hy => .inl ?_) (of_pair k ver)
    rw [rowFs_num hx, rowFs_num hy]; omega
/-- what skip reads of a message's bytes -/
theorem small_msg {m : Msg} {ver : Int} (h : (chkM m (ofKind m.k (rowsIn ver))).1 = 0) (hn : ∀ i, i < 6 → m.n i < 18446744073709551616) :
    msgB m (ofKind m.k (rowsIn ver)) = bytesFs (msgFs m (ofKind m.k (rowsIn ver))) ∧ (msgB m (ofKind m.k (rowsIn ver))).length ≤ 8192 ∧ (fieldsR (msgB m (ofKind m.k (rowsIn ver)))).2 = (0, 0) ∧
    (fieldsR (msgB m (ofKind m.k (rowsIn ver)))).1.length = (msgFs m (ofKind m.k (rowsIn ver))).length ∧
    (∀ j (h1 : j < (fieldsR (msgB m (ofKind m.k (rowsIn ver)))).1.length) (h2 : j < (msgFs m (ofKind m.k (rowsIn ver))).length), likeF (fieldsR (msgB m (ofKind m.k (rowsIn ver)))).1[j] (msgFs m (ofKind m.k (rowsIn ver)))[j] = true) ∧
    ∀ x ∈ msgFs m (ofKind m.k (rowsIn ver)), ∃ r ∈ ofKind m.k (rowsIn ver), GoodF r x := by
  obtain ⟨he, -⟩ := chk_oks h
  have hg : ∀ r ∈ ofKind m.k (rowsIn ver), (∀ x ∈ rowFs m r, GoodF r x) ∧ (bytesFs (rowFs m r)).length ≤ capT r.2.2.1 := fun r hr => rowFs_good (ofKind_sub hr).1 (he r hr) hn
  have hb : msgB m (ofKind m.k (rowsIn ver)) = bytesFs (msgFs m (ofKind m.k (rowsIn ver))) := by unfold msgB; rw [if_neg (by omega), msgB_fs]
  have hl : (bytesFs (msgFs m (ofKind m.k (rowsIn ver)))).length ≤ 8192 := by
    refine Nat.le_trans (msgFs_len fun r hr => (hg r hr).2) ?_
    rw [of_comm]
    split
    · exact Nat.zero_le _
    · exact Nat.le_trans (sum_filter _ _ _) (caps m.k)
  have hgf : ∀ x ∈ msgFs m (ofKind m.k (rowsIn ver)), ∃ r ∈ ofKind m.k (rowsIn ver), GoodF r x := fun x hx => by
    obtain ⟨r, hr, hx⟩ := List.mem_flatMap.1 hx
    exact ⟨r, hr, (hg r hr).1 x hx⟩
  have hp := putsF_all (msgFs m (ofKind m.k (rowsIn ver))) 0 fun x hx => by obtain ⟨r, -, g⟩ := hgf x hx; exact g.err
  obtain ⟨r1, r2, r3⟩ := fieldsAt_put (msgFs m (ofKind m.k (rowsIn ver))) (bytesFs (msgFs m (ofKind m.k (rowsIn ver)))) 0 0 (fun x hx => by obtain ⟨r, -, g⟩ := hgf x hx; exact g.ok) (by rw [hp]) (Nat.zero_le _) (by rw [hp]; rfl)
  refine ⟨hb, by rw [hb]; exact hl, by rw [hb]; exact r1, by rw [hb]; exact r2, ?_, hgf⟩
  rw [hb]
  intro j h1 h2
  have h := r3 j h1 h2
  obtain ⟨r, -, g⟩ := hgf _ (List.getElem_mem h2)
  rw [g.bare] at h
  exact h
/-- each field that is read is one that the message may have; their numbers rise -/
theorem small_at {m : Msg} {ver : Int} (h : (chkM m (ofKind m.k (rowsIn ver))).1 = 0) (hn : ∀ i, i < 6 → m.n i < 18446744073709551616) {F : List Fld} (hF : (fieldsR (msgB m (ofKind m.k (rowsIn ver)))).1 = F) (j : Nat) (hj : j < F.length) :
    ∃ r, (rowsIn ver).find? (isField m.k (fNum F[j])) = some r ∧ (fWire F[j] : Int) = (wireV r.2.2.1).1 ∧ (wireV r.2.2.1).2 = true ∧
    ∀ i (hi : i + 1 = j), fNum F[i] < fNum F[j] ∨ (fNum F[i] = fNum F[j] ∧ r.2.2.1 = 10) := by
  subst hF
  obtain ⟨-, -, -, hl, hk, hg⟩ := small_msg h hn
  have hj2 : j < (msgFs m (ofKind m.k (rowsIn ver))).length := by rw [← hl]; exact hj
  have e := likeF_iff.1 (hk j hj hj2)
  obtain ⟨r, hr, g⟩ := hg _ (List.getElem_mem hj2)
  have en : fNum (fieldsR (msgB m (ofKind m.k (rowsIn ver)))).1[j] = (r.2.1 : Int) := e.1.trans g.num
  refine ⟨r, by rw [en]; exact of_find hr, ?_, g.good, fun i hi => ?_⟩
  · have := g.wire
    have e2 := e.2.1
    show (((fieldsR (msgB m (ofKind m.k (rowsIn ver)))).1[j].2.1 : Nat) : Int) = _
    rw [e2]; exact this
  · subst hi
    have hi2 : i < (msgFs m (ofKind m.k (rowsIn ver))).length := by omega
    have e' := likeF_iff.1 (hk i (by omega) hi2)
    have hu := List.pairwise_iff_getElem.1 (msgFs_up m m.k ver) i (i + 1) hi2 hj2 (Nat.lt_succ_self i)
    have ex : fNum (fieldsR (msgB m (ofKind m.k (rowsIn ver)))).1[i] = fNum (msgFs m (ofKind m.k (rowsIn ver)))[i] := e'.1
    have ey : fNum (fieldsR (msgB m (ofKind m.k (rowsIn ver)))).1[i + 1] = fNum (msgFs m (ofKind m.k (rowsIn ver)))[i + 1] := e.1
    rw [ex, ey]
    rcases hu with hu | ⟨h1, h2⟩
    · exact .inl hu
    · exact .inr ⟨h1, h2 r hr g.num.symm⟩
/-! ## messages with the same bytes -/
theorem flatMap_same {f g : Row → List Fld} : ∀ {L : List Row}, (∀ r ∈ L, f r = g r) → L.flatMap f = L.flatMap g
  | [], _ => rfl
  | r :: L, h => by rw [List.flatMap_cons, List.flatMap_cons, h r (List.mem_cons_self ..), flatMap_same fun x hx => h x (List.mem_cons_of_mem _ hx)]
theorem msgFs_filter {m : Msg} : ∀ {L : List Row}, (L.Pairwise fun r r' => r.2.1 < r'.2.1) → ∀ r ∈ L, (msgFs m L).filter (fun x => fNum x == (r.2.1 : Int)) = rowFs m r
  | [], _, r, hr => by cases hr
  | a :: L, hp, r, hr => by
    obtain ⟨h1, h2⟩ := List.pairwise_cons.1 hp
    show (rowFs m a ++ msgFs m L).filter _ = _
    rw [List.filter_append]
    rcases List.mem_cons.1 hr with rfl | hr'
    · have e1 : (rowFs m r).filter (fun x => fNum x == (r.2.1 : Int)) = rowFs m r := by
        rw [List.filter_eq_self]
        intro x hx
        rw [rowFs_num hx]; simp
      have e2 : (msgFs m L).filter (fun x => fNum x == (r.2.1 : Int)) = [] := by
        rw [List.filter_eq_nil_iff]
        intro x hx
        obtain ⟨b, hb, hx⟩ := List.mem_flatMap.1 hx
        have := h1 b hb
        rw [rowFs_num hx]; simp; omega
      rw [e1, e2, List.append_nil]
    · have e1 : (rowFs m a).filter (fun x => fNum x == (r.2.1 : Int)) = [] := by
        rw [List.filter_eq_nil_iff]
        intro x hx
        have := h1 r hr'
        rw [rowFs_num hx]; simp; omega
      rw [e1, List.nil_append]
      exact msgFs_filter h2 r hr'
theorem sB_inj {s t : ByteArray} (h : sB s = sB t) : s = t := ByteArray.ext (Array.toList_inj.1 h)
theorem zig_inj {a b : Nat} (ha : a < 18446744073709551616) (hb : b < 18446744073709551616) (h : zigN (wrap64 (a : Int)) = zigN (wrap64 (b : Int))) : a = b := by
  unfold zigN wrap64 at h
  split at h <;> split at h <;> omega
theorem def_zero {m : Msg} {t sl : Int} (h : defB m t sl = true) : plN m t sl = 0 ∧ plS m t sl = ⟨#[]⟩ ∧ plL m t = [] := by
  unfold defB at h
  simp only [Bool.and_eq_true, beq_iff_eq, List.isEmpty_iff] at h
  obtain ⟨⟨h1, h2⟩, h3⟩ := h
  refine ⟨h1, ?_, List.eq_nil_of_length_eq_zero h3⟩
  apply ByteArray.ext
  rw [ByteArray.toList_eq] at h2
  exact (Array.toList_eq_nil_iff.1 h2).trans rfl
theorem rowFs_none {m : Msg} {r : Row} (h : rowFs m r = []) : defB m r.2.2.1 r.2.2.2.1 = true := by
  unfold rowFs at h
  by_cases hd : defB m r.2.2.1 r.2.2.2.1 = true
  · exact hd
  rw [if_neg hd] at h
  by_cases h10 : (r.2.2.1 : Int) = 10
  · rw [if_pos h10] at h
    rw [h10, def_list, List.map_eq_nil_iff.1 h]; rfl
  · rw [if_neg h10] at h; cases h
theorem row_place {a b : Msg} {r : Row} (ha : ∀ i, i < 6 → a.n i < 18446744073709551616) (hb : ∀ i, i < 6 → b.n i < 18446744073709551616) (h : rowFs a r = rowFs b r) :
    plN a r.2.2.1 r.2.2.2.1 = plN b r.2.2.1 r.2.2.2.1 ∧ plS a r.2.2.1 r.2.2.2.1 = plS b r.2.2.1 r.2.2.2.1 ∧ plL a r.2.2.1 = plL b r.2.2.1 := by
  by_cases hda : defB a r.2.2.1 r.2.2.2.1 = true
  · have e : rowFs a r = [] := by unfold rowFs; rw [if_pos hda]
    have hdb := rowFs_none (h.symm.trans e)
    obtain ⟨x1, x2, x3⟩ := def_zero hda
    obtain ⟨y1, y2, y3⟩ := def_zero hdb
    exact ⟨by rw [x1, y1], by rw [x2, y2], by rw [x3, y3]⟩
  by_cases hdb : defB b r.2.2.1 r.2.2.2.1 = true
  · have e : rowFs b r = [] := by unfold rowFs; rw [if_pos hdb]
    exact absurd (rowFs_none (h.trans e)) hda
  have la := plN_lt (m := a) (t := (r.2.2.1 : Int)) (sl := (r.2.2.2.1 : Int)) ha
  have lb := plN_lt (m := b) (t := (r.2.2.1 : Int)) (sl := (r.2.2.2.1 : Int)) hb
  unfold rowFs at h
  rw [if_neg hda, if_neg hdb] at h
  by_cases h10 : (r.2.2.1 : Int) = 10
  · rw [if_pos h10, if_pos h10] at h
    rw [h10]
    have hl : a.l = b.l := by
      have hi : ∀ x y : ByteArray, (((r.2.1 : Int), 2, 0, sB x, 0) : Fld) = ((r.2.1 : Int), 2, 0, sB y, 0) → x = y := fun x y e => sB_inj (congrArg fB e)
      exact List.map_inj_right (fun {x y} => hi x y) |>.1 h
    exact ⟨rfl, rfl, hl⟩
  · rw [if_neg h10, if_neg h10] at h
    have h := List.singleton_inj.1 h
    have e1 := congrArg fN h
    have e2 := sB_inj (congrArg fB h)
    refine ⟨?_, e2, by unfold plL; rw [if_neg h10, if_neg h10]⟩
    simp only [fN] at e1
    by_cases h3 : (r.2.2.1 : Int) = 3
    · rw [if_pos h3, if_pos h3] at e1; exact zig_inj la lb e1
    · rw [if_neg h3, if_neg h3] at e1; exact e1
theorem sameB_iff {a b : Msg} : sameB a b = true ↔ a.k = b.k ∧ (∀ i, i < 6 → a.n i = b.n i) ∧ (∀ i, i < 2 → a.s i = b.s i) ∧ a.l = b.l := by
  unfold sameB
  simp only [Bool.and_eq_true, beq_iff_eq, nL, sL, List.cons.injEq, and_true, Int.natCast_inj]
  constructor
  · rintro ⟨⟨⟨h1, h2⟩, h3⟩, h4⟩
    refine ⟨h1, fun i hi => ?_, fun i hi => ?_, h4⟩
    · rcases (show i = 0 ∨ i = 1 ∨ i = 2 ∨ i = 3 ∨ i = 4 ∨ i = 5 by omega) with rfl | rfl | rfl | rfl | rfl | rfl
      · exact h2.1
      · exact h2.2.1
      · exact h2.2.2.1
      · exact h2.2.2.2.1
      · exact h2.2.2.2.2.1
      · exact h2.2.2.2.2.2
    · rcases (show i = 0 ∨ i = 1 by omega) with rfl | rfl
      · exact h3.1
      · exact h3.2
  · rintro ⟨h1, h2, h3, h4⟩
    exact ⟨⟨⟨h1, h2 0 (by omega), h2 1 (by omega), h2 2 (by omega), h2 3 (by omega), h2 4 (by omega), h2 5 (by omega)⟩, h3 0 (by omega), h3 1 (by omega)⟩, h4⟩
theorem same_fR {a b : Msg} (h : sameB a b = true) (r : Row) : rowFs a r = rowFs b r := by
  obtain ⟨-, hn, hs, hl⟩ := sameB_iff.1 h
  have e1 : plN a r.2.2.1 r.2.2.2.1 = plN b r.2.2.1 r.2.2.2.1 := by
    unfold plN; split
    · exact hn _ (by omega)
    · rfl
  have e2 : plS a r.2.2.1 r.2.2.2.1 = plS b r.2.2.1 r.2.2.2.1 := by
    unfold plS; split
    · exact hs _ (by omega)
    · rfl
  have e3 : plL a r.2.2.1 = plL b r.2.2.1 := by unfold plL; rw [hl]
  unfold rowFs defB
  rw [e1, e2, e3, hl]
theorem clean_at {m : Msg} {L : List Row} (h : sameB (cleanM m L) m = true) : (∀ i, i < 6 → hasN L i = false → m.n i = 0) ∧ (∀ i, i < 2 → hasS L i = false → m.s i = ⟨#[]⟩) ∧ (hasL L = false → m.l = []) := by
  obtain ⟨-, hn, hs, hl⟩ := sameB_iff.1 h
  refine ⟨fun i hi hh => ?_, fun i hi hh => ?_, fun hh => ?_⟩
  · have := hn i hi
    unfold cleanM at this
    simp only at this
    rw [if_neg (by rw [hh]; decide)] at this
    exact this.symm
  · have := hs i hi
    unfold cleanM at this
    simp only at this
    rw [if_neg (by rw [hh]; decide)] at this
    exact this.symm
  · unfold cleanM at hl
    simp only at hl
    rw [if_neg (by rw [hh]; decide)] at hl
    exact hl.symm
/-- messages of one kind that may be in a version are alike if their bytes are -/
theorem apart {a b : Msg} {ver : Int} (hk : a.k = b.k) (ha : (chkM a (ofKind a.k (rowsIn ver))).1 = 0) (hb : (chkM b (ofKind b.k (rowsIn ver))).1 = 0)
    (hna : ∀ i, i < 6 → a.n i < 18446744073709551616) (hnb : ∀ i, i < 6 → b.n i < 18446744073709551616) :
    (msgB a (ofKind a.k (rowsIn ver)) == msgB b (ofKind b.k (rowsIn ver))) = sameB a b := by
  obtain ⟨a1, -, -, a2, a3, a4⟩ := small_msg ha hna
  obtain ⟨b1, -, -, b2, b3, b4⟩ := small_msg hb hnb
  obtain ⟨-, ca⟩ := chk_oks ha
  obtain ⟨-, cb⟩ := chk_oks hb
  rw [← hk] at b1 b2 b3 b4 cb ⊢
  rw [Bool.eq_iff_iff, beq_iff_eq]
  constructor
  · intro h
    rw [← h] at b2 b3
    have hfs : msgFs a (ofKind a.k (rowsIn ver)) = msgFs b (ofKind a.k (rowsIn ver)) := by
      refine List.ext_getElem (by omega) fun j h1 h2 => ?_
      have x1 := likeF_iff.1 (a3 j (by omega) h1)
      have x2 := likeF_iff.1 (b3 j (by omega) h2)
      obtain ⟨r1, -, g1⟩ := a4 _ (List.getElem_mem h1)
      obtain ⟨r2, -, g2⟩ := b4 _ (List.getElem_mem h2)
      have p1 := g1.pos
      have p2 := g2.pos
      refine Prod.ext (x1.1.symm.trans x2.1) (Prod.ext (x1.2.1.symm.trans x2.2.1) (Prod.ext (x1.2.2.1.symm.trans x2.2.2.1) (Prod.ext (x1.2.2.2.symm.trans x2.2.2.2) ?_)))
      exact p1.trans p2.symm
    have hrow : ∀ r ∈ ofKind a.k (rowsIn ver), rowFs a r = rowFs b r := fun r hr => by
      rw [← msgFs_filter (of_pair a.k ver) r hr, ← msgFs_filter (m := b) (of_pair a.k ver) r hr, hfs]
    obtain ⟨na, sa, la⟩ := clean_at ca
    obtain ⟨nb, sb, lb⟩ := clean_at cb
    refine sameB_iff.2 ⟨hk, fun i hi => ?_, fun i hi => ?_, ?_⟩
    · cases hh : hasN (ofKind a.k (rowsIn ver)) i with
      | false => rw [na i hi hh, nb i hi hh]
      | true =>
        unfold hasN at hh
        obtain ⟨r, hr, hp⟩ := List.any_eq_true.1 hh
        simp only [Bool.and_eq_true, decide_eq_true_eq, beq_iff_eq] at hp
        have ho := of_ok hr
        obtain ⟨e, -, -⟩ := row_place hna hnb (hrow r hr)
        have hnt : numB (r.2.2.1 : Int) = true := numB_iff.2 (by have := ho.1; have := hp.1; simp only [rTyp] at *; omega)
        have h6 : (r.2.2.2.1 : Int) < 6 := by have := hp.2; simp only [rSlot] at this; omega
        rw [(pl_num (m := a) hnt (by omega) h6).1, (pl_num (m := b) hnt (by omega) h6).1] at e
        have hi2 : (r.2.2.2.1 : Int).toNat = i := by have := hp.2; simp only [rSlot] at this; omega
        rw [hi2] at e; exact e
    · cases hh : hasS (ofKind a.k (rowsIn ver)) i with
      | false => rw [sa i hi hh, sb i hi hh]
      | true =>
        unfold hasS at hh
        obtain ⟨r, hr, hp⟩ := List.any_eq_true.1 hh
        simp only [Bool.and_eq_true, decide_eq_true_eq, beq_iff_eq] at hp
        obtain ⟨-, e, -⟩ := row_place hna hnb (hrow r hr)
        have hnt : txtB (r.2.2.1 : Int) = true := txtB_iff.2 (by have := hp.1; simp only [rTyp] at this; omega)
        have h6 : (r.2.2.2.1 : Int) < 2 := by have := hp.2; simp only [rSlot] at this; omega
        rw [(pl_txt (m := a) hnt (by omega) h6).2.1, (pl_txt (m := b) hnt (by omega) h6).2.1] at e
        have hi2 : (r.2.2.2.1 : Int).toNat = i := by have := hp.2; simp only [rSlot] at this; omega
        rw [hi2] at e; exact e
    · cases hh : hasL (ofKind a.k (rowsIn ver)) with
      | false => rw [la hh, lb hh]
      | true =>
        unfold hasL at hh
        obtain ⟨r, hr, hp⟩ := List.any_eq_true.1 hh
        simp only [decide_eq_true_eq] at hp
        have ho := of_ok hr
        obtain ⟨-, -, e⟩ := row_place hna hnb (hrow r hr)
        have h10 : (r.2.2.1 : Int) = 10 := by have := ho.2.1; simp only [rTyp] at *; omega
        rw [h10] at e; exact e
  · intro h
    rw [a1, b1]
    unfold msgFs
    congr 1
    have : ∀ r ∈ ofKind a.k (rowsIn ver), rowFs a r = rowFs b r := fun r _ => same_fR h r
    exact flatMap_same this
end Go.Proofs.YtbjoohafgkodcaaGreat
