/- Fields that are put, and read again: in plain words. No walk. -/
import Derived.Test.YtcibhkiddeggmaaSkM
namespace Go.Proofs.Ytcibhkiddeggmaa
open Go Go.RowKit Go.Shelf

/-- a field's value in bytes -/
def valB (x : Fld) : List UInt8 :=
  if fWire x = 0 then vput (fN x) else if fWire x = 1 then fixB 8 (fN x) else if fWire x = 5 then fixB 4 (fN x % 4294967296) else vput (fB x).length ++ fB x
/-- a field's bytes, or why there are none -/
def putF (x : Fld) : List UInt8 × Nat :=
  if (tmake (fNum x) (fWire x)).2 ≠ 0 then ([], (tmake (fNum x) (fWire x)).2)
  else if fWire x = 2 ∧ 8192 < (fB x).length then ([], 2)
  else (vput (tmake (fNum x) (fWire x)).1 ++ valB x, 0)
/-- fields' bytes, or why there are none, and at which one -/
def putsF : Nat → List Fld → List UInt8 × Nat × Nat
  | _, [] => ([], 0, 0)
  | i, x :: l => if (putF x).2 ≠ 0 then ([], (putF x).2, i)
    else if (putsF (i + 1) l).2.1 ≠ 0 then ([], (putsF (i + 1) l).2)
    else ((putF x).1 ++ (putsF (i + 1) l).1, 0, 0)
theorem putsF_cons (i : Nat) (x : Fld) (l : List Fld) : putsF i (x :: l) = if (putF x).2 ≠ 0 then ([], (putF x).2, i)
    else if (putsF (i + 1) l).2.1 ≠ 0 then ([], (putsF (i + 1) l).2)
    else ((putF x).1 ++ (putsF (i + 1) l).1, 0, 0) := rfl
def joinB (pre : List UInt8) (r : List UInt8 × Nat × Nat) : List UInt8 × Nat × Nat := if r.2.1 ≠ 0 then ([], r.2) else (pre ++ r.1, 0, 0)
theorem putsF_err : ∀ (l : List Fld) (i : Nat), (putsF i l).2.1 ≠ 0 → (putsF i l).1 = []
  | [], i, h => absurd rfl h
  | x :: l, i, h => by
    rw [putsF_cons] at h ⊢
    by_cases h1 : (putF x).2 ≠ 0
    · rw [if_pos h1]
    rw [if_neg h1] at h ⊢
    by_cases h2 : (putsF (i + 1) l).2.1 ≠ 0
    · rw [if_pos h2]
    rw [if_neg h2] at h; simp at h
theorem putsF_ok : ∀ (l : List Fld) (i : Nat), (putsF i l).2.1 = 0 → (putsF i l).2 = (0, 0)
  | [], i, _ => rfl
  | x :: l, i, h => by
    rw [putsF_cons] at h ⊢
    by_cases h1 : (putF x).2 ≠ 0
    · rw [if_pos h1] at h; exact absurd h h1
    rw [if_neg h1] at h ⊢
    by_cases h2 : (putsF (i + 1) l).2.1 ≠ 0
    · rw [if_pos h2] at h; exact absurd h h2
    rw [if_neg h2]
theorem joinB_nil (i : Nat) (l : List Fld) : joinB [] (putsF i l) = putsF i l := by
  unfold joinB
  by_cases h : (putsF i l).2.1 ≠ 0
  · rw [if_pos h]; exact Prod.ext (putsF_err l i h).symm rfl
  · rw [if_neg h]; exact Prod.ext (by simp) (putsF_ok l i (by omega)).symm
theorem joinB_bad (pre : List UInt8) {i : Nat} {l : List Fld} {x : Fld} (h : (putF x).2 ≠ 0) : joinB pre (putsF i (x :: l)) = ([], (putF x).2, i) := by
  rw [putsF_cons, if_pos h]; unfold joinB; rw [if_pos h]
theorem joinB_step (pre : List UInt8) {i : Nat} {l : List Fld} {x : Fld} (h : (putF x).2 = 0) : joinB pre (putsF i (x :: l)) = joinB (pre ++ (putF x).1) (putsF (i + 1) l) := by
  rw [putsF_cons, if_neg (by omega)]
  by_cases h2 : (putsF (i + 1) l).2.1 ≠ 0
  · rw [if_pos h2]; unfold joinB; rw [if_pos h2, if_pos h2]
  · rw [if_neg h2]; unfold joinB; rw [if_neg (by simp), if_neg h2]; simp
theorem joinB_end (pre : List UInt8) (i : Nat) : joinB pre (putsF i []) = (pre, 0, 0) := by
  unfold joinB putsF; rw [if_neg (by simp)]; simp

/-- a field with what its wire type has alone -/
def bareF (x : Fld) : Fld := if fWire x = 2 then (fNum x, fWire x, 0, fB x, fAt x) else if fWire x = 5 then (fNum x, fWire x, fN x % 4294967296, [], fAt x) else (fNum x, fWire x, fN x, [], fAt x)
/-- alike, but for the place -/
def likeF (a b : Fld) : Bool := a.1 == b.1 && a.2.1 == b.2.1 && a.2.2.1 == b.2.2.1 && a.2.2.2.1 == b.2.2.2.1
theorem likeF_iff {a b : Fld} : likeF a b = true ↔ a.1 = b.1 ∧ a.2.1 = b.2.1 ∧ a.2.2.1 = b.2.2.1 ∧ a.2.2.2.1 = b.2.2.2.1 := by
  unfold likeF; simp [Bool.and_eq_true, and_assoc]
def Fld.ok (x : Fld) : Prop := -9223372036854775808 ≤ fNum x ∧ fNum x ≤ 9223372036854775807 ∧ fWire x < 256 ∧ fN x < 18446744073709551616

theorem fixR_at {l : List UInt8} {q k n : Nat} {t : List UInt8} (hk : n < 256 ^ k) (h : l.drop q = fixB k n ++ t) : fixR l q k = (n, 0, q + k) := by
  unfold fixR
  rw [h, if_neg (by rw [List.length_append, fixB_length]; omega)]
  have e : (fixB k n ++ t).take k = fixB k n := by
    have := List.take_left (l₁ := fixB k n) (l₂ := t)
    rwa [fixB_length] at this
  rw [e, unfix_fixB k n hk]
theorem bytesR_at {l : List UInt8} {q m : Nat} {b t : List UInt8} (hb : b.length ≤ m) (hm : m < 18446744073709551616) (h : l.drop q = (vput b.length ++ b) ++ t) : bytesR l q (m : Int) = (b, 0, q + (vput b.length ++ b).length) := by
  unfold bytesR
  have hv : vget (l.drop q) = (b.length, (vput b.length).length, 0) := by rw [h, List.append_assoc]; exact vget_vput _ _ (by omega)
  have hl := congrArg List.length h
  rw [List.length_drop, List.length_append, List.length_append] at hl
  have hp := vput_pos b.length
  rw [hv, if_neg (by simp), if_neg (by simp only; omega)]
  unfold cutR
  rw [if_neg (by simp only; omega)]
  refine Prod.ext ?_ (Prod.ext rfl (by simp))
  simp only
  rw [← List.drop_drop, h, List.append_assoc, List.drop_left, List.take_left]
theorem valR_put {l : List UInt8} {q : Nat} {x : Fld} {t : List UInt8} (hx : x.ok) (hw : wireB (fWire x) = true) (hb : fWire x = 2 → (fB x).length ≤ 8192) (h : l.drop q = valB x ++ t) :
    valR l q (fWire x) = (fN (bareF x), fB (bareF x), 0, q + (valB x).length) := by
  obtain ⟨-, -, -, hn⟩ := hx
  unfold valB at h ⊢
  unfold valR bareF
  rcases wireB_or hw with e | e | e | e
  · rw [e] at h ⊢
    rw [if_pos rfl] at h ⊢
    rw [if_neg (by decide), if_neg (by decide), if_pos rfl, h, vget_vput _ _ hn]
  · rw [e] at h ⊢
    rw [if_neg (by decide), if_pos rfl] at h ⊢
    rw [if_neg (by decide), if_neg (by decide), if_neg (by decide), if_pos rfl, fixR_at (k := 8) (by exact hn) h, fixB_length]
  · rw [e] at h ⊢
    rw [if_neg (by decide), if_neg (by decide), if_neg (by decide)] at h ⊢
    rw [if_pos rfl, if_neg (by decide), if_neg (by decide), if_neg (by decide)]
    have := bytesR_at (m := 8192) (hb e) (by omega) h
    rw [show ((8192 : Nat) : Int) = 8192 from rfl] at this
    rw [this]
  · rw [e] at h ⊢
    rw [if_neg (by decide), if_neg (by decide), if_pos rfl] at h ⊢
    rw [if_neg (by decide), if_pos rfl, if_neg (by decide), if_neg (by decide), if_pos rfl, fixR_at (k := 4) (by have : (256:Nat)^4 = 4294967296 := by decide
                                                                                                                 omega) h, fixB_length]
theorem tmake_ok {num : Int} {wire : Nat} (h : (tmake num wire).2 = 0) : 1 ≤ num ∧ num ≤ 536870911 ∧ wireB wire = true ∧ (tmake num wire).1 < 18446744073709551616 := by
  unfold tmake at h ⊢
  by_cases h1 : num < 1 ∨ 536870911 < num
  · simp [h1] at h
  rw [if_neg h1] at h ⊢
  by_cases h2 : wireB wire = false
  · simp [h2] at h
  rw [if_neg h2]
  have hw : wireB wire = true := by simpa using h2
  have := wireB_or hw
  exact ⟨by omega, by omega, hw, by simp only; omega⟩
theorem putF_ok {x : Fld} (h : (putF x).2 = 0) : (tmake (fNum x) (fWire x)).2 = 0 ∧ (fWire x = 2 → (fB x).length ≤ 8192) ∧ putF x = (vput (tmake (fNum x) (fWire x)).1 ++ valB x, 0) := by
  unfold putF at h ⊢
  by_cases h1 : (tmake (fNum x) (fWire x)).2 ≠ 0
  · rw [if_pos h1] at h; exact absurd h h1
  rw [if_neg h1] at h ⊢
  by_cases h2 : fWire x = 2 ∧ 8192 < (fB x).length
  · rw [if_pos h2] at h; simp at h
  rw [if_neg h2]
  exact ⟨by omega, fun e => by have := fun h => h2 ⟨e, h⟩; omega, rfl⟩
/-- what was put is read -/
theorem oneR_put {l : List UInt8} {q : Nat} {x : Fld} {t : List UInt8} (hx : x.ok) (h0 : (putF x).2 = 0) (h : l.drop q = (putF x).1 ++ t) :
    oneR l q = ((fNum x, fWire x, fN (bareF x), fB (bareF x), (q : Int)), 0, 0, q + (putF x).1.length) := by
  obtain ⟨h1, h2, h3⟩ := putF_ok h0
  obtain ⟨t1, t2, t3, t4⟩ := tmake_ok h1
  rw [h3] at h ⊢
  simp only [List.append_assoc] at h
  have hv : vget (l.drop q) = ((tmake (fNum x) (fWire x)).1, (vput (tmake (fNum x) (fWire x)).1).length, 0) := by rw [h]; exact vget_vput _ _ t4
  have hs := tsplit_tmake (fNum x) (fWire x) h1
  have ht : tagR l q = ((fNum x).toNat, fWire x, 0, q + (vput (tmake (fNum x) (fWire x)).1).length) := by
    unfold tagR
    rw [hv, if_neg (by simp)]
    simp only
    rw [hs, if_neg (by simp)]
  have hd : l.drop (q + (vput (tmake (fNum x) (fWire x)).1).length) = valB x ++ t := by rw [← List.drop_drop, h, List.drop_left]
  have hval := valR_put hx t3 h2 hd
  unfold oneR
  rw [ht]
  simp only
  rw [if_neg (by simp), hval, if_neg (by simp)]
  simp only [List.length_append]
  refine Prod.ext (Prod.ext ?_ rfl) (Prod.ext rfl (Prod.ext rfl ?_))
  · simp only; omega
  · simp only; omega
theorem putF_pos {x : Fld} (h : (putF x).2 = 0) : 1 ≤ (putF x).1.length := by
  rw [(putF_ok h).2.2]
  have := vput_pos (tmake (fNum x) (fWire x)).1
  rw [List.length_append]; omega
/-- fields that were put are read: each like it was, bare -/
theorem fieldsAt_put : ∀ (xs : List Fld) (l : List UInt8) (q i : Nat), (∀ x ∈ xs, x.ok) → (putsF i xs).2.1 = 0 → q ≤ l.length → l.drop q = (putsF i xs).1 →
    (fieldsAt l q).2 = (0, 0) ∧ (fieldsAt l q).1.length = xs.length ∧ ∀ j (h1 : j < (fieldsAt l q).1.length) (h2 : j < xs.length), likeF ((fieldsAt l q).1[j]) (bareF xs[j]) = true
  | [], l, q, i, _, _, hq, hd => by
    have : l.length ≤ q := by
      have := congrArg List.length hd
      rw [List.length_drop] at this; simp [putsF] at this; omega
    rw [fieldsAt_end this]
    exact ⟨rfl, rfl, fun j h1 => by simp at h1⟩
  | x :: xs, l, q, i, hok, h0, hq, hd => by
    have hx : (putF x).2 = 0 := by
      rw [putsF_cons] at h0
      by_cases h : (putF x).2 ≠ 0
      · rw [if_pos h] at h0; exact absurd h0 h
      · omega
    have hxs : (putsF (i + 1) xs).2.1 = 0 := by
      rw [putsF_cons] at h0
      rw [if_neg (by omega)] at h0
      by_cases h : (putsF (i + 1) xs).2.1 ≠ 0
      · rw [if_pos h] at h0; exact absurd h0 h
      · omega
    have e : (putsF i (x :: xs)).1 = (putF x).1 ++ (putsF (i + 1) xs).1 := by rw [putsF_cons, if_neg (by omega), if_neg (by omega)]
    rw [e] at hd
    have hp := putF_pos hx
    have hlen := congrArg List.length hd
    rw [List.length_drop, List.length_append] at hlen
    have ho := oneR_put (hok x (List.mem_cons_self ..)) hx hd
    have hd2 : l.drop (q + (putF x).1.length) = (putsF (i + 1) xs).1 := by rw [← List.drop_drop, hd, List.drop_left]
    obtain ⟨r1, r2, r3⟩ := fieldsAt_put xs l (q + (putF x).1.length) (i + 1) (fun y hy => hok y (List.mem_cons_of_mem _ hy)) hxs (by omega) hd2
    have hst := fieldsAt_step (l := l) (p := q) (by omega) (by rw [ho])
    rw [ho] at hst
    simp only at hst
    rw [if_neg (by rw [r1]; simp)] at hst
    rw [hst]
    refine ⟨rfl, by simp [r2], fun j h1 h2 => ?_⟩
    match j, h1, h2 with
    | 0, h1, h2 =>
      simp only [List.getElem_cons_zero]
      rw [likeF_iff]
      unfold bareF
      split
      · exact ⟨rfl, rfl, rfl, rfl⟩
      split
      · exact ⟨rfl, rfl, rfl, rfl⟩
      · exact ⟨rfl, rfl, rfl, rfl⟩
    | j + 1, h1, h2 =>
      simp only [List.getElem_cons_succ]
      exact r3 j (by simpa using h1) (by simpa using h2)
end Go.Proofs.Ytcibhkiddeggmaa
