/- Fields that were read: how many there are, and how long they are. No walk. ; What is read, and put, is read alike, and is no longer: in plain words. No walk. ; Fields that are put, and read again: in plain words. No walk. ; Fields in plain words: what is read at a place, what is put. No walk. -/
import Derived.Test.YtbjoohafgkodcaaGreatInb
namespace Go.Proofs.YtbjoohafgkodcaaGreat
open Go Go.RowKit Go.Shelf

/-- a field: its number, its wire type, its number or its bytes, and where it begins -/
abbrev Fld := Int × Nat × Nat × List UInt8 × Int
abbrev fNum (x : Fld) : Int := x.1
abbrev fWire (x : Fld) : Nat := x.2.1
abbrev fN (x : Fld) : Nat := x.2.2.1
abbrev fB (x : Fld) : List UInt8 := x.2.2.2.1
abbrev fAt (x : Fld) : Int := x.2.2.2.2
def zeroF : Fld := (0, 0, 0, [], 0)

/-! ## reading -/
/-- what stands behind a tag: number, bytes, error, and where one is behind it -/
def valR (l : List UInt8) (q wire : Nat) : Nat × List UInt8 × Nat × Nat :=
  if wire = 0 then ((vget (l.drop q)).1, [], (vget (l.drop q)).2.2, q + (vget (l.drop q)).2.1)
  else if wire = 1 then ((fixR l q 8).1, [], (fixR l q 8).2.1, (fixR l q 8).2.2)
  else if wire = 5 then ((fixR l q 4).1, [], (fixR l q 4).2.1, (fixR l q 4).2.2)
  else (0, (bytesR l q 8192).1, (bytesR l q 8192).2.1, (bytesR l q 8192).2.2)
/-- the field at a place, or what is wrong, and where; and where one is behind it -/
def oneR (l : List UInt8) (p : Nat) : Fld × Nat × Nat × Nat :=
  if (tagR l p).2.2.1 ≠ 0 then (zeroF, (tagR l p).2.2.1, p, (tagR l p).2.2.2)
  else if (valR l (tagR l p).2.2.2 (tagR l p).2.1).2.2.1 ≠ 0 then (zeroF, (valR l (tagR l p).2.2.2 (tagR l p).2.1).2.2.1, (tagR l p).2.2.2, (valR l (tagR l p).2.2.2 (tagR l p).2.1).2.2.2)
  else (((tagR l p).1, (tagR l p).2.1, (valR l (tagR l p).2.2.2 (tagR l p).2.1).1, (valR l (tagR l p).2.2.2 (tagR l p).2.1).2.1, p), 0, 0, (valR l (tagR l p).2.2.2 (tagR l p).2.1).2.2.2)
/-- all fields from a place on, or what is wrong first, and where -/
def fieldsF (l : List UInt8) : Nat → Nat → List Fld × Nat × Nat
  | 0, _ => ([], 0, 0)
  | f + 1, p => if l.length ≤ p then ([], 0, 0) else if (oneR l p).2.1 ≠ 0 then ([], (oneR l p).2.1, (oneR l p).2.2.1)
    else if (fieldsF l f (oneR l p).2.2.2).2.1 ≠ 0 then ([], (fieldsF l f (oneR l p).2.2.2).2)
    else ((oneR l p).1 :: (fieldsF l f (oneR l p).2.2.2).1, 0, 0)
theorem fieldsF_succ (l : List UInt8) (f p : Nat) : fieldsF l (f + 1) p = if l.length ≤ p then ([], 0, 0) else if (oneR l p).2.1 ≠ 0 then ([], (oneR l p).2.1, (oneR l p).2.2.1)
    else if (fieldsF l f (oneR l p).2.2.2).2.1 ≠ 0 then ([], (fieldsF l f (oneR l p).2.2.2).2)
    else ((oneR l p).1 :: (fieldsF l f (oneR l p).2.2.2).1, 0, 0) := rfl
def fieldsR (l : List UInt8) : List Fld × Nat × Nat := fieldsF l (l.length + 1) 0

theorem tagR_err (l : List UInt8) (p : Nat) (h : (tagR l p).2.2.1 ≠ 0) : (tagR l p).2.2.2 = p ∧ (tagR l p).1 = 0 ∧ (tagR l p).2.1 = 0 := by
  unfold tagR at h ⊢
  by_cases h1 : (vget (l.drop p)).2.2 ≠ 0
  · rw [if_pos h1]; exact ⟨rfl, rfl, rfl⟩
  rw [if_neg h1] at h ⊢
  by_cases h2 : (tsplit (vget (l.drop p)).1).2.2 ≠ 0
  · rw [if_pos h2]; exact ⟨rfl, rfl, rfl⟩
  rw [if_neg h2] at h; simp at h
theorem tsplit_ok (n : Nat) (h : (tsplit n).2.2 = 0) : 1 ≤ (tsplit n).1 ∧ (tsplit n).1 ≤ 536870911 ∧ wireB (tsplit n).2.1 = true := by
  unfold tsplit at h ⊢
  by_cases h1 : n / 8 < 1 ∨ 536870911 < n / 8
  · rw [if_pos h1] at h; simp at h
  rw [if_neg h1] at h ⊢
  by_cases h2 : wireB (n % 8) = false
  · rw [if_pos h2] at h; simp at h
  rw [if_neg h2]
  refine ⟨?_, ?_, ?_⟩
  · simp only; omega
  · simp only; omega
  · simpa using h2
theorem wireB_or {w : Nat} (h : wireB w = true) : w = 0 ∨ w = 1 ∨ w = 2 ∨ w = 5 := by
  unfold wireB at h; simp only [Bool.or_eq_true, beq_iff_eq] at h; omega
theorem tagR_ok (l : List UInt8) (p : Nat) (hp : p ≤ l.length) (h : (tagR l p).2.2.1 = 0) : p < (tagR l p).2.2.2 ∧ (tagR l p).2.2.2 ≤ l.length ∧ 1 ≤ (tagR l p).1 ∧ (tagR l p).1 ≤ 536870911 ∧ wireB (tagR l p).2.1 = true := by
  have hb := vget_bd (l.drop p)
  rw [List.length_drop] at hb
  unfold tagR at h ⊢
  by_cases h1 : (vget (l.drop p)).2.2 ≠ 0
  · rw [if_pos h1] at h; exact absurd h h1
  rw [if_neg h1] at h ⊢
  by_cases h2 : (tsplit (vget (l.drop p)).1).2.2 ≠ 0
  · rw [if_pos h2] at h; exact absurd h h2
  rw [if_neg h2]
  have h3 := tsplit_ok (vget (l.drop p)).1 (by omega)
  have h4 := hb.2.2.2.1 (by omega)
  exact ⟨by simp only; omega, by simp only; omega, h3⟩
theorem fixR_next (l : List UInt8) (q k : Nat) (hq : q ≤ l.length) : q ≤ (fixR l q k).2.2 ∧ (fixR l q k).2.2 ≤ l.length := by
  unfold fixR
  rw [List.length_drop]
  split
  · exact ⟨Nat.le_refl _, hq⟩
  · simp only; omega
theorem cutR_next (l : List UInt8) (q a n : Nat) (hq : q ≤ l.length) : q ≤ (cutR l q a n).2.2 ∧ (cutR l q a n).2.2 ≤ l.length := by
  unfold cutR
  split
  · exact ⟨Nat.le_refl _, hq⟩
  · simp only; omega
theorem cutR_len (l : List UInt8) (q a n : Nat) : (cutR l q a n).1.length ≤ n := by
  unfold cutR
  split
  · simp
  · simp only [List.length_take]; omega
theorem bytesR_next (l : List UInt8) (q : Nat) (m : Int) (hq : q ≤ l.length) : q ≤ (bytesR l q m).2.2 ∧ (bytesR l q m).2.2 ≤ l.length := by
  unfold bytesR
  split
  · exact ⟨Nat.le_refl _, hq⟩
  split
  · exact ⟨Nat.le_refl _, hq⟩
  · exact cutR_next l q _ _ hq
theorem bytesR_len (l : List UInt8) (q m : Nat) : (bytesR l q (m : Int)).1.length ≤ m := by
  unfold bytesR
  split
  · simp
  split
  · simp
  · rename_i h
    exact Nat.le_trans (cutR_len _ _ _ _) (by omega)
theorem valR_next (l : List UInt8) (q wire : Nat) (hq : q ≤ l.length) : q ≤ (valR l q wire).2.2.2 ∧ (valR l q wire).2.2.2 ≤ l.length := by
  have hb := vget_bd (l.drop q)
  rw [List.length_drop] at hb
  unfold valR
  split
  · simp only; omega
  split
  · exact fixR_next l q 8 hq
  split
  · exact fixR_next l q 4 hq
  · exact bytesR_next l q 8192 hq
theorem valR_bd (l : List UInt8) (q wire : Nat) : (valR l q wire).1 < 18446744073709551616 ∧ (valR l q wire).2.1.length ≤ 8192 := by
  have hb := vget_bd (l.drop q)
  unfold valR
  split
  · exact ⟨hb.1, by simp⟩
  split
  · refine ⟨?_, by simp⟩
    have := tread_lt (l.drop q) 8
    rw [fixR_tread]; exact this
  split
  · refine ⟨?_, by simp⟩
    have := tread_lt (l.drop q) 4
    rw [fixR_tread]; simp only; omega
  · exact ⟨by omega, bytesR_len l q 8192⟩
theorem oneR_ok (l : List UInt8) (p : Nat) (hp : p ≤ l.length) (h : (oneR l p).2.1 = 0) :
    (tagR l p).2.2.1 = 0 ∧ (valR l (tagR l p).2.2.2 (tagR l p).2.1).2.2.1 = 0 ∧ p < (oneR l p).2.2.2 ∧ (oneR l p).2.2.2 ≤ l.length ∧
    oneR l p = (((((tagR l p).1 : Nat) : Int), (tagR l p).2.1, (valR l (tagR l p).2.2.2 (tagR l p).2.1).1, (valR l (tagR l p).2.2.2 (tagR l p).2.1).2.1, (p : Int)), 0, 0, (valR l (tagR l p).2.2.2 (tagR l p).2.1).2.2.2) := by
  unfold oneR at h ⊢
  by_cases h1 : (tagR l p).2.2.1 ≠ 0
  · rw [if_pos h1] at h; exact absurd h h1
  rw [if_neg h1] at h ⊢
  have h1' : (tagR l p).2.2.1 = 0 := by omega
  by_cases h2 : (valR l (tagR l p).2.2.2 (tagR l p).2.1).2.2.1 ≠ 0
  · rw [if_pos h2] at h; exact absurd h h2
  rw [if_neg h2]
  have ht := tagR_ok l p hp h1'
  have hv := valR_next l (tagR l p).2.2.2 (tagR l p).2.1 ht.2.1
  exact ⟨h1', by omega, by simp only; omega, hv.2, rfl⟩
theorem oneR_next (l : List UInt8) (p : Nat) (hp : p ≤ l.length) : p ≤ (oneR l p).2.2.2 ∧ (oneR l p).2.2.2 ≤ l.length := by
  unfold oneR
  by_cases h1 : (tagR l p).2.2.1 ≠ 0
  · rw [if_pos h1]; have := tagR_err l p h1; simp only; omega
  rw [if_neg h1]
  have ht := tagR_ok l p hp (by omega)
  have hv := valR_next l (tagR l p).2.2.2 (tagR l p).2.1 ht.2.1
  split <;> (simp only; omega)
/-- enough fuel is enough -/
theorem fieldsF_fuel (l : List UInt8) : ∀ (f g p : Nat), p ≤ l.length → l.length < p + f → l.length < p + g → fieldsF l f p = fieldsF l g p
  | 0, _, p, hp, hf, _ => by omega
  | _ + 1, 0, p, hp, _, hg => by omega
  | f + 1, g + 1, p, hp, hf, hg => by
    rw [fieldsF_succ, fieldsF_succ]
    by_cases h1 : l.length ≤ p
    · rw [if_pos h1, if_pos h1]
    rw [if_neg h1, if_neg h1]
    by_cases h2 : (oneR l p).2.1 ≠ 0
    · rw [if_pos h2, if_pos h2]
    rw [if_neg h2, if_neg h2]
    have ho := oneR_ok l p hp (by omega)
    rw [fieldsF_fuel l f g (oneR l p).2.2.2 ho.2.2.2.1 (by omega) (by omega)]
/-- the fields from a place on -/
def fieldsAt (l : List UInt8) (p : Nat) : List Fld × Nat × Nat := fieldsF l (l.length + 1) p
theorem fieldsAt_end {l : List UInt8} {p : Nat} (h : l.length ≤ p) : fieldsAt l p = ([], 0, 0) := by unfold fieldsAt; rw [fieldsF_succ, if_pos h]
theorem fieldsAt_bad {l : List UInt8} {p : Nat} (h : p < l.length) (he : (oneR l p).2.1 ≠ 0) : fieldsAt l p = ([], (oneR l p).2.1, (oneR l p).2.2.1) := by
  unfold fieldsAt; rw [fieldsF_succ, if_neg (by omega), if_pos he]
theorem fieldsAt_step {l : List UInt8} {p : Nat} (h : p < l.length) (he : (oneR l p).2.1 = 0) : fieldsAt l p = if (fieldsAt l (oneR l p).2.2.2).2.1 ≠ 0 then ([], (fieldsAt l (oneR l p).2.2.2).2) else ((oneR l p).1 :: (fieldsAt l (oneR l p).2.2.2).1, 0, 0) := by
  have ho := oneR_ok l p (by omega) he
  have e : fieldsAt l p = if (fieldsF l l.length (oneR l p).2.2.2).2.1 ≠ 0 then ([], (fieldsF l l.length (oneR l p).2.2.2).2) else ((oneR l p).1 :: (fieldsF l l.length (oneR l p).2.2.2).1, 0, 0) := by
    show fieldsF l (l.length + 1) p = _
    rw [fieldsF_succ, if_neg (by omega), if_neg (by omega)]
  rw [e, fieldsF_fuel l l.length (l.length + 1) (oneR l p).2.2.2 ho.2.2.2.1 (by omega) (by omega)]
  rfl
/-- what has been read, and what is to be read -/
def joinF (pre : List Fld) (r : List Fld × Nat × Nat) : List Fld × Nat × Nat := if r.2.1 ≠ 0 then ([], r.2) else (pre ++ r.1, 0, 0)
theorem joinF_nil {l : List UInt8} {p : Nat} : joinF [] (fieldsAt l p) = fieldsAt l p := by
  unfold joinF
  by_cases h : (fieldsAt l p).2.1 ≠ 0
  · rw [if_pos h]
    refine Prod.ext ?_ rfl
    show [] = (fieldsAt l p).1
    unfold fieldsAt at h ⊢
    rw [fieldsF_succ] at h ⊢
    split
    · rfl
    split
    · rfl
    split
    · rfl
    · rename_i h1 h2 h3
      rw [if_neg h1, if_neg h2, if_neg h3] at h; simp at h
  · rw [if_neg h]
    refine Prod.ext rfl ?_
    show (0, 0) = (fieldsAt l p).2
    unfold fieldsAt at h ⊢
    rw [fieldsF_succ] at h ⊢
    split
    · rfl
    split
    · rename_i h1 h2; rw [if_neg h1, if_pos h2] at h; exact absurd h2 (by simpa using h)
    split
    · rename_i h1 h2 h3; rw [if_neg h1, if_neg h2, if_pos h3] at h; exact absurd h3 (by simpa using h)
    · rfl
theorem joinF_step {l : List UInt8} {p : Nat} (pre : List Fld) (h : p < l.length) (he : (oneR l p).2.1 = 0) : joinF pre (fieldsAt l p) = joinF (pre ++ [(oneR l p).1]) (fieldsAt l (oneR l p).2.2.2) := by
  rw [fieldsAt_step h he]
  unfold joinF
  by_cases h2 : (fieldsAt l (oneR l p).2.2.2).2.1 ≠ 0
  · rw [if_pos h2, if_pos h2, if_pos h2]
  · rw [if_neg h2, if_neg h2, if_neg (by simp)]; simp
theorem joinF_bad {l : List UInt8} {p : Nat} (pre : List Fld) (h : p < l.length) (he : (oneR l p).2.1 ≠ 0) : joinF pre (fieldsAt l p) = ([], (oneR l p).2.1, (oneR l p).2.2.1) := by
  rw [fieldsAt_bad h he]; unfold joinF; rw [if_pos he]
theorem joinF_end {l : List UInt8} {p : Nat} (pre : List Fld) (h : l.length ≤ p) : joinF pre (fieldsAt l p) = (pre, 0, 0) := by
  rw [fieldsAt_end h]; unfold joinF; rw [if_neg (by simp)]; simp
end Go.Proofs.YtbjoohafgkodcaaGreat
namespace Go.Proofs.YtbjoohafgkodcaaGreat
open Go Go.RowKit Go.Shelf

/-- a field's value in bytes -/
def valB (x : Fld) : List UInt8 :=
  if fWire x = 0 then vput (fN x) else if fWire x = 1 then fixB 8 (fN x) else if fWire x = 5 then fixB 4 (fN x % 4294967296) else vput (fB x).length ++ fB x
/-- a field's bytes, or why there are none -/
def putF (x : Fld) : List UInt8 × Nat :=
  if (tmake (fNum x) (fWire x)).2 ≠ 0 then ([], (tmake (fNum x) (fWire x)).2)
  else if fWire x = 2 ∧ 8192 < (fB x).length then ([], 2)
  else (vput (tmake (fNum x) (fWire x)).1 ++ valB x, 0)
/-- fields' bytes, or why there are none, and at which one -/
def putsF : Nat → List Fld → List UInt8 × Nat × Nat
  | _, [] => ([], 0, 0)
  | i, x :: l => if (putF x).2 ≠ 0 then ([], (putF x).2, i)
    else if (putsF (i + 1) l).2.1 ≠ 0 then ([], (putsF (i + 1) l).2)
    else ((putF x).1 ++ (putsF (i + 1) l).1, 0, 0)
theorem putsF_cons (i : Nat) (x : Fld) (l : List Fld) : putsF i (x :: l) = if (putF x).2 ≠ 0 then ([], (putF x).2, i)
    else if (putsF (i + 1) l).2.1 ≠ 0 then ([], (putsF (i + 1) l).2)
    else ((putF x).1 ++ (putsF (i + 1) l).1, 0, 0) := rfl
def joinB (pre : List UInt8) (r : List UInt8 × Nat × Nat) : List UInt8 × Nat × Nat := if r.2.1 ≠ 0 then ([], r.2) else (pre ++ r.1, 0, 0)
theorem putsF_err : ∀ (l : List Fld) (i : Nat), (putsF i l).2.1 ≠ 0 → (putsF i l).1 = []
  | [], i, h => absurd rfl h
  | x :: l, i, h => by
    rw [putsF_cons] at h ⊢
    by_cases h1 : (putF x).2 ≠ 0
    · rw [if_pos h1]
    rw [if_neg h1] at h ⊢
    by_cases h2 : (putsF (i + 1) l).2.1 ≠ 0
    · rw [if_pos h2]
    rw [if_neg h2] at h; simp at h
theorem putsF_ok : ∀ (l : List Fld) (i : Nat), (putsF i l).2.1 = 0 → (putsF i l).2 = (0, 0)
  | [], i, _ => rfl
  | x :: l, i, h => by
    rw [putsF_cons] at h ⊢
    by_cases h1 : (putF x).2 ≠ 0
    · rw [if_pos h1] at h; exact absurd h h1
    rw [if_neg h1] at h ⊢
    by_cases h2 : (putsF (i + 1) l).2.1 ≠ 0
    · rw [if_pos h2] at h; exact absurd h h2
    rw [if_neg h2]
theorem joinB_nil (i : Nat) (l : List Fld) : joinB [] (putsF i l) = putsF i l := by
  unfold joinB
  by_cases h : (putsF i l).2.1 ≠ 0
  · rw [if_pos h]; exact Prod.ext (putsF_err l i h).symm rfl
  · rw [if_neg h]; exact Prod.ext (by simp) (putsF_ok l i (by omega)).symm
theorem joinB_bad (pre : List UInt8) {i : Nat} {l : List Fld} {x : Fld} (h : (putF x).2 ≠ 0) : joinB pre (putsF i (x :: l)) = ([], (putF x).2, i) := by
  rw [putsF_cons, if_pos h]; unfold joinB; rw [if_pos h]
theorem joinB_step (pre : List UInt8) {i : Nat} {l : List Fld} {x : Fld} (h : (putF x).2 = 0) : joinB pre (putsF i (x :: l)) = joinB (pre ++ (putF x).1) (putsF (i + 1) l) := by
  rw [putsF_cons, if_neg (by omega)]
  by_cases h2 : (putsF (i + 1) l).2.1 ≠ 0
  · rw [if_pos h2]; unfold joinB; rw [if_pos h2, if_pos h2]
  · rw [if_neg h2]; unfold joinB; rw [if_neg (by simp), if_neg h2]; simp
theorem joinB_end (pre : List UInt8) (i : Nat) : joinB pre (putsF i []) = (pre, 0, 0) := by
  unfold joinB putsF; rw [if_neg (by simp)]; simp

/-- a field with what its wire type has alone -/
def bareF (x : Fld) : Fld := if fWire x = 2 then (fNum x, fWire x, 0, fB x, fAt x) else if fWire x = 5 then (fNum x, fWire x, fN x % 4294967296, [], fAt x) else (fNum x, fWire x, fN x, [], fAt x)
/-- alike, but for the place -/
def likeF (a b : Fld) : Bool := a.1 == b.1 && a.2.1 == b.2.1 && a.2.2.1 == b.2.2.1 && a.2.2.2.1 == b.2.2.2.1
theorem likeF_iff {a b : Fld} : likeF a b = true ↔ a.1 = b.1 ∧ a.2.1 = b.2.1 ∧ a.2.2.1 = b.2.2.1 ∧ a.2.2.2.1 = b.2.2.2.1 := by
  unfold likeF; simp [Bool.and_eq_true, and_assoc]
def Fld.ok (x : Fld) : Prop := -9223372036854775808 ≤ fNum x ∧ fNum x ≤ 9223372036854775807 ∧ fWire x < 256 ∧ fN x < 18446744073709551616

theorem fixR_at {l : List UInt8} {q k n : Nat} {t : List UInt8} (hk : n < 256 ^ k) (h : l.drop q = fixB k n ++ t) : fixR l q k = (n, 0, q + k) := by
  unfold fixR
  rw [h, if_neg (by rw [List.length_append, fixB_length]; omega)]
  have e : (fixB k n ++ t).take k = fixB k n := by
    have := List.take_left (l₁ := fixB k n) (l₂ := t)
    rwa [fixB_length] at this
  rw [e, unfix_fixB k n hk]
theorem bytesR_at {l : List UInt8} {q m : Nat} {b t : List UInt8} (hb : b.length ≤ m) (hm : m < 18446744073709551616) (h : l.drop q = (vput b.length ++ b) ++ t) : bytesR l q (m : Int) = (b, 0, q + (vput b.length ++ b).length) := by
  unfold bytesR
  have hv : vget (l.drop q) = (b.length, (vput b.length).length, 0) := by rw [h, List.append_assoc]; exact vget_vput _ _ (by omega)
  have hl := congrArg List.length h
  rw [List.length_drop, List.length_append, List.length_append] at hl
  have hp := vput_pos b.length
  rw [hv, if_neg (by simp), if_neg (by simp only; omega)]
  unfold cutR
  rw [if_neg (by simp only; omega)]
  refine Prod.ext ?_ (Prod.ext rfl (by simp))
  simp only
  rw [← List.drop_drop, h, List.append_assoc, List.drop_left, List.take_left]
theorem valR_put {l : List UInt8} {q : Nat} {x : Fld} {t : List UInt8} (hx : x.ok) (hw : wireB (fWire x) = true) (hb : fWire x = 2 → (fB x).length ≤ 8192) (h : l.drop q = valB x ++ t) :
    valR l q (fWire x) = (fN (bareF x), fB (bareF x), 0, q + (valB x).length) := by
  obtain ⟨-, -, -, hn⟩ := hx
  unfold valB at h ⊢
  unfold valR bareF
  rcases wireB_or hw with e | e | e | e
  · rw [e] at h ⊢
    rw [if_pos rfl] at h ⊢
    rw [if_neg (by decide), if_neg (by decide), if_pos rfl, h, vget_vput _ _ hn]
  · rw [e] at h ⊢
    rw [if_neg (by decide), if_pos rfl] at h ⊢
    rw [if_neg (by decide), if_neg (by decide), if_neg (by decide), if_pos rfl, fixR_at (k := 8) (by exact hn) h, fixB_length]
  · rw [e] at h ⊢
    rw [if_neg (by decide), if_neg (by decide), if_neg (by decide)] at h ⊢
    rw [if_pos rfl, if_neg (by decide), if_neg (by decide), if_neg (by decide)]
    have := bytesR_at (m := 8192) (hb e) (by omega) h
    rw [show ((8192 : Nat) : Int) = 8192 from rfl] at this
    rw [this]
  · rw [e] at h ⊢
    rw [if_neg (by decide), if_neg (by decide), if_pos rfl] at h ⊢
    rw [if_neg (by decide), if_pos rfl, if_neg (by decide), if_neg (by decide), if_pos rfl, fixR_at (k := 4) (by have : (256:Nat)^4 = 4294967296 := by decide
                                                                                                                 omega) h, fixB_length]
theorem tmake_ok {num : Int} {wire : Nat} (h : (tmake num wire).2 = 0) : 1 ≤ num ∧ num ≤ 536870911 ∧ wireB wire = true ∧ (tmake num wire).1 < 18446744073709551616 := by
  unfold tmake at h ⊢
  by_cases h1 : num < 1 ∨ 536870911 < num
  · simp [h1] at h
  rw [if_neg h1] at h ⊢
  by_cases h2 : wireB wire = false
  · simp [h2] at h
  rw [if_neg h2]
  have hw : wireB wire = true := by simpa using h2
  have := wireB_or hw
  exact ⟨by omega, by omega, hw, by simp only; omega⟩
theorem putF_ok {x : Fld} (h : (putF x).2 = 0) : (tmake (fNum x) (fWire x)).2 = 0 ∧ (fWire x = 2 → (fB x).length ≤ 8192) ∧ putF x = (vput (tmake (fNum x) (fWire x)).1 ++ valB x, 0) := by
  unfold putF at h ⊢
  by_cases h1 : (tmake (fNum x) (fWire x)).2 ≠ 0
  · rw [if_pos h1] at h; exact absurd h h1
  rw [if_neg h1] at h ⊢
  by_cases h2 : fWire x = 2 ∧ 8192 < (fB x).length
  · rw [if_pos h2] at h; simp at h
  rw [if_neg h2]
  exact ⟨by omega, fun e => by have := fun h => h2 ⟨e, h⟩; omega, rfl⟩
/-- what was put is read -/
theorem oneR_put {l : List UInt8} {q : Nat} {x : Fld} {t : List UInt8} (hx : x.ok) (h0 : (putF x).2 = 0) (h : l.drop q = (putF x).1 ++ t) :
    oneR l q = ((fNum x, fWire x, fN (bareF x), fB (bareF x), (q : Int)), 0, 0, q + (putF x).1.length) := by
  obtain ⟨h1, h2, h3⟩ := putF_ok h0
  obtain ⟨t1, t2, t3, t4⟩ := tmake_ok h1
  rw [h3] at h ⊢
  simp only [List.append_assoc] at h
  have hv : vget (l.drop q) = ((tmake (fNum x) (fWire x)).1, (vput (tmake (fNum x) (fWire x)).1).length, 0) := by rw [h]; exact vget_vput _ _ t4
  have hs := tsplit_tmake (fNum x) (fWire x) h1
  have ht : tagR l q = ((fNum x).toNat, fWire x, 0, q + (vput (tmake (fNum x) (fWire x)).1).length) := by
    unfold tagR
    rw [hv, if_neg (by simp)]
    simp only
    rw [hs, if_neg (by simp)]
  have hd : l.drop (q + (vput (tmake (fNum x) (fWire x)).1).length) = valB x ++ t := by rw [← List.drop_drop, h, List.drop_left]
  have hval := valR_put hx t3 h2 hd
  unfold oneR
  rw [ht]
  simp only
  rw [if_neg (by simp), hval, if_neg (by simp)]
  simp only [List.length_append]
  refine Prod.ext (Prod.ext ?_ rfl) (Prod.ext rfl (Prod.ext rfl ?_))
  · simp only; omega
  · simp only; omega
theorem putF_pos {x : Fld} (h : (putF x).2 = 0) : 1 ≤ (putF x).1.length := by
  rw [(putF_ok h).2.2]
  have := vput_pos (tmake (fNum x) (fWire x)).1
  rw [List.length_append]; omega
/-- fields that were put are read: each like it was, bare -/
theorem fieldsAt_put : ∀ (xs : List Fld) (l : List UInt8) (q i : Nat), (∀ x ∈ xs, x.ok) → (putsF i xs).2.1 = 0 → q ≤ l.length → l.drop q = (putsF i xs).1 →
    (fieldsAt l q).2 = (0, 0) ∧ (fieldsAt l q).1.length = xs.length ∧ ∀ j (h1 : j < (fieldsAt l q).1.length) (h2 : j < xs.length), likeF ((fieldsAt l q).1[j]) (bareF xs[j]) = true
  | [], l, q, i, _, _, hq, hd => by
    have : l.length ≤ q := by
      have := congrArg List.length hd
      rw [List.length_drop] at this; simp [putsF] at this; omega
    rw [fieldsAt_end this]
    exact ⟨rfl, rfl, fun j h1 => by simp at h1⟩
  | x :: xs, l, q, i, hok, h0, hq, hd => by
    have hx : (putF x).2 = 0 := by
      rw [putsF_cons] at h0
      by_cases h : (putF x).2 ≠ 0
      · rw [if_pos h] at h0; exact absurd h0 h
      · omega
    have hxs : (putsF (i + 1) xs).2.1 = 0 := by
      rw [putsF_cons] at h0
      rw [if_neg (by omega)] at h0
      by_cases h : (putsF (i + 1) xs).2.1 ≠ 0
      · rw [if_pos h] at h0; exact absurd h0 h
      · omega
    have e : (putsF i (x :: xs)).1 = (putF x).1 ++ (putsF (i + 1) xs).1 := by rw [putsF_cons, if_neg (by omega), if_neg (by omega)]
    rw [e] at hd
    have hp := putF_pos hx
    have hlen := congrArg List.length hd
    rw [List.length_drop, List.length_append] at hlen
    have ho := oneR_put (hok x (List.mem_cons_self ..)) hx hd
    have hd2 : l.drop (q + (putF x).1.length) = (putsF (i + 1) xs).1 := by rw [← List.drop_drop, hd, List.drop_left]
    obtain ⟨r1, r2, r3⟩ := fieldsAt_put xs l (q + (putF x).1.length) (i + 1) (fun y hy => hok y (List.mem_cons_of_mem _ hy)) hxs (by omega) hd2
    have hst := fieldsAt_step (l := l) (p := q) (by omega) (by rw [ho])
    rw [ho] at hst
    simp only at hst
    rw [if_neg (by rw [r1]; simp)] at hst
    rw [hst]
    refine ⟨rfl, by simp [r2], fun j h1 h2 => ?_⟩
    match j, h1, h2 with
    | 0, h1, h2 =>
      simp only [List.getElem_cons_zero]
      rw [likeF_iff]
      unfold bareF
      split
      · exact ⟨rfl, rfl, rfl, rfl⟩
      split
      · exact ⟨rfl, rfl, rfl, rfl⟩
      · exact ⟨rfl, rfl, rfl, rfl⟩
    | j + 1, h1, h2 =>
      simp only [List.getElem_cons_succ]
      exact r3 j (by simpa using h1) (by simpa using h2)
end Go.Proofs.YtbjoohafgkodcaaGreat
namespace Go.Proofs.YtbjoohafgkodcaaGreat
open Go Go.RowKit Go.Shelf

theorem vgetL_pow (l : List UInt8) : ∀ i acc, acc < 128 ^ i → (vgetL i acc l).2.2 = 0 → (vgetL i acc l).1 < 128 ^ (vgetL i acc l).2.1 ∧ 1 ≤ (vgetL i acc l).2.1 := by
  induction l with
  | nil => intro i acc ha h; simp [vgetL] at h
  | cons b t ih =>
    intro i acc ha h
    unfold vgetL at h ⊢
    by_cases h1 : i = 9 ∧ 128 ≤ b.toNat
    · rw [if_pos h1] at h; simp at h
    rw [if_neg h1] at h ⊢
    by_cases h2 : i = 9 ∧ 2 ≤ b.toNat
    · rw [if_pos h2] at h; simp at h
    rw [if_neg h2] at h ⊢
    by_cases h3 : b.toNat < 128
    · rw [if_pos h3]; exact ⟨mul_pow_lt acc b.toNat i ha h3, by simp only; omega⟩
    · rw [if_neg h3] at h ⊢
      have hb := b.toNat_lt
      exact ih (i + 1) _ (mul_pow_lt acc (b.toNat - 128) i ha (by omega)) h
theorem vget_min (l : List UInt8) (h : (vget l).2.2 = 0) : (vput (vget l).1).length ≤ (vget l).2.1 := by
  have h1 := vgetL_pow l 0 0 (by simp) h
  have h2 : (vget l).2.1 - 1 + 1 = (vget l).2.1 := by have := h1.2; unfold vget; omega
  have h3 := vput_len ((vget l).2.1 - 1) (vget l).1 (by rw [h2]; exact h1.1)
  omega
theorem tsplit_back {n : Nat} (h : (tsplit n).2.2 = 0) : tmake (tsplit n).1 (tsplit n).2.1 = (n, 0) := by
  have hk := tsplit_ok n h
  unfold tsplit at h hk ⊢
  by_cases h1 : n / 8 < 1 ∨ 536870911 < n / 8
  · rw [if_pos h1] at h; simp at h
  rw [if_neg h1] at h hk ⊢
  by_cases h2 : wireB (n % 8) = false
  · rw [if_pos h2] at h; simp at h
  rw [if_neg h2]
  simp only
  unfold tmake
  rw [if_neg (by omega), if_neg h2]
  refine Prod.ext ?_ rfl
  simp only; omega
theorem valR_0 (l : List UInt8) (q : Nat) : valR l q 0 = ((vget (l.drop q)).1, [], (vget (l.drop q)).2.2, q + (vget (l.drop q)).2.1) := rfl
theorem valR_1 (l : List UInt8) (q : Nat) : valR l q 1 = ((fixR l q 8).1, [], (fixR l q 8).2.1, (fixR l q 8).2.2) := rfl
theorem valR_5 (l : List UInt8) (q : Nat) : valR l q 5 = ((fixR l q 4).1, [], (fixR l q 4).2.1, (fixR l q 4).2.2) := rfl
theorem valR_2 (l : List UInt8) (q : Nat) : valR l q 2 = (0, (bytesR l q 8192).1, (bytesR l q 8192).2.1, (bytesR l q 8192).2.2) := rfl
theorem valB_0 (num : Int) (n : Nat) (b : List UInt8) (a : Int) : valB (num, 0, n, b, a) = vput n := rfl
theorem valB_1 (num : Int) (n : Nat) (b : List UInt8) (a : Int) : valB (num, 1, n, b, a) = fixB 8 n := rfl
theorem valB_5 (num : Int) (n : Nat) (b : List UInt8) (a : Int) : valB (num, 5, n, b, a) = fixB 4 (n % 4294967296) := rfl
theorem valB_2 (num : Int) (n : Nat) (b : List UInt8) (a : Int) : valB (num, 2, n, b, a) = vput b.length ++ b := rfl
theorem bareF_5 (num : Int) (n : Nat) (b : List UInt8) (a : Int) : bareF (num, 5, n, b, a) = (num, 5, n % 4294967296, [], a) := rfl
theorem valR_min {l : List UInt8} {q : Nat} {w : Nat} {num at_ : Int} (hq : q ≤ l.length) (h : (valR l q w).2.2.1 = 0) (hw : wireB w = true) :
    q + (valB (num, w, (valR l q w).1, (valR l q w).2.1, at_)).length ≤ (valR l q w).2.2.2 ∧
    bareF (num, w, (valR l q w).1, (valR l q w).2.1, at_) = (num, w, (valR l q w).1, (valR l q w).2.1, at_) := by
  rcases wireB_or hw with rfl | rfl | rfl | rfl
  · rw [valR_0] at h ⊢
    simp only at h ⊢
    rw [valB_0]
    have := vget_min _ h
    exact ⟨by omega, rfl⟩
  · rw [valR_1] at h ⊢
    simp only at h ⊢
    rw [valB_1, fixB_length]
    unfold fixR at h ⊢
    by_cases h1 : (l.drop q).length < 8
    · rw [if_pos h1] at h; simp at h
    · rw [if_neg h1]; exact ⟨Nat.le_refl _, rfl⟩
  · rw [valR_2] at h ⊢
    simp only at h ⊢
    rw [valB_2]
    refine ⟨?_, rfl⟩
    unfold bytesR at h ⊢
    by_cases h1 : (vget (l.drop q)).2.2 ≠ 0
    · rw [if_pos h1] at h; exact absurd h h1
    rw [if_neg h1] at h ⊢
    by_cases h2 : (8192 : Int) < 0 ∨ (8192 : Int) < ((vget (l.drop q)).1 : Int)
    · rw [if_pos h2] at h; simp at h
    rw [if_neg h2] at h ⊢
    unfold cutR at h ⊢
    by_cases h3 : l.length - q < (vget (l.drop q)).2.1 + (vget (l.drop q)).1
    · rw [if_pos h3] at h; simp at h
    rw [if_neg h3]
    have hm := vget_min (l.drop q) (by omega)
    have hl : ((l.drop (q + (vget (l.drop q)).2.1)).take (vget (l.drop q)).1).length = (vget (l.drop q)).1 := by rw [List.length_take, List.length_drop]; omega
    simp only [List.length_append, hl]
    omega
  · rw [valR_5] at h ⊢
    simp only at h ⊢
    rw [valB_5, fixB_length, bareF_5]
    unfold fixR at h ⊢
    by_cases h1 : (l.drop q).length < 4
    · rw [if_pos h1] at h; simp at h
    · rw [if_neg h1]
      refine ⟨Nat.le_refl _, ?_⟩
      have h4 := unfix_lt ((l.drop q).take 4)
      have h5 : ((l.drop q).take 4).length = 4 := by rw [List.length_take]; omega
      rw [h5] at h4
      have : (256:Nat)^4 = 4294967296 := by decide
      rw [Nat.mod_eq_of_lt (by simp only; omega)]
/-- one field, read and put -/
theorem oneR_min {l : List UInt8} {p : Nat} (hp : p ≤ l.length) (h : (oneR l p).2.1 = 0) : ((oneR l p).1).ok ∧ (putF (oneR l p).1).2 = 0 ∧ p + (putF (oneR l p).1).1.length ≤ (oneR l p).2.2.2 ∧ bareF (oneR l p).1 = (oneR l p).1 := by
  obtain ⟨h1, h2, h3, h4, h5⟩ := oneR_ok l p hp h
  rw [h5]
  obtain ⟨t1, t2, t3, t4, t5⟩ := tagR_ok l p hp h1
  obtain ⟨v1, v2⟩ := valR_min (num := ((tagR l p).1 : Int)) (at_ := (p : Int)) t2 h2 t5
  have vb := valR_bd l (tagR l p).2.2.2 (tagR l p).2.1
  have hw := wireB_or t5
  have hmk : tmake ((tagR l p).1 : Int) (tagR l p).2.1 = ((vget (l.drop p)).1, 0) ∧ p + (vput (vget (l.drop p)).1).length ≤ (tagR l p).2.2.2 := by
    unfold tagR at h1 ⊢
    by_cases q1 : (vget (l.drop p)).2.2 ≠ 0
    · rw [if_pos q1] at h1; exact absurd h1 q1
    rw [if_neg q1] at h1 ⊢
    by_cases q2 : (tsplit (vget (l.drop p)).1).2.2 ≠ 0
    · rw [if_pos q2] at h1; exact absurd h1 q2
    rw [if_neg q2]
    have := vget_min (l.drop p) (by omega)
    exact ⟨tsplit_back (by omega), by simp only; omega⟩
  have hok : (putF (((tagR l p).1 : Int), (tagR l p).2.1, (valR l (tagR l p).2.2.2 (tagR l p).2.1).1, (valR l (tagR l p).2.2.2 (tagR l p).2.1).2.1, (p : Int))) = (vput (vget (l.drop p)).1 ++ valB (((tagR l p).1 : Int), (tagR l p).2.1, (valR l (tagR l p).2.2.2 (tagR l p).2.1).1, (valR l (tagR l p).2.2.2 (tagR l p).2.1).2.1, (p : Int)), 0) := by
    unfold putF
    simp only [fNum, fWire, fB]
    rw [hmk.1, if_neg (by simp), if_neg (by omega)]
  refine ⟨⟨by simp only [fNum]; omega, by simp only [fNum]; omega, by simp only [fWire]; omega, vb.1⟩, by rw [hok], ?_, v2⟩
  rw [hok]
  simp only [List.length_append]
  omega
theorem fieldsF_all (l : List UInt8) : ∀ (f p i : Nat), p ≤ l.length → l.length < p + f → (fieldsF l f p).2.1 = 0 →
    (∀ x ∈ (fieldsF l f p).1, x.ok ∧ bareF x = x) ∧ (putsF i (fieldsF l f p).1).2.1 = 0 ∧ p + (putsF i (fieldsF l f p).1).1.length ≤ l.length
  | 0, p, i, hp, hf, _ => by omega
  | f + 1, p, i, hp, hf, h => by
    rw [fieldsF_succ] at h ⊢
    by_cases h1 : l.length ≤ p
    · rw [if_pos h1]; exact ⟨fun x hx => by simp at hx, rfl, by simp [putsF]; exact hp⟩
    rw [if_neg h1] at h ⊢
    by_cases h2 : (oneR l p).2.1 ≠ 0
    · rw [if_pos h2] at h; exact absurd h h2
    rw [if_neg h2] at h ⊢
    by_cases h3 : (fieldsF l f (oneR l p).2.2.2).2.1 ≠ 0
    · rw [if_pos h3] at h; exact absurd h h3
    rw [if_neg h3]
    have ho := oneR_ok l p hp (by omega)
    obtain ⟨m1, m2, m3, m4⟩ := oneR_min hp (by omega)
    obtain ⟨a1, a2, a3⟩ := fieldsF_all l f (oneR l p).2.2.2 (i + 1) ho.2.2.2.1 (by omega) (by omega)
    refine ⟨fun x hx => ?_, ?_, ?_⟩
    · rcases List.mem_cons.1 hx with rfl | hx
      · exact ⟨m1, m4⟩
      · exact a1 x hx
    · rw [putsF_cons, if_neg (by omega), if_neg (by omega)]
    · rw [putsF_cons, if_neg (by omega), if_neg (by omega)]
      simp only [List.length_append]; omega
theorem fieldsR_again (l : List UInt8) (h : (fieldsR l).2.1 = 0) : (putsF 0 (fieldsR l).1).2.1 = 0 ∧ (putsF 0 (fieldsR l).1).1.length ≤ l.length ∧
    (fieldsR (putsF 0 (fieldsR l).1).1).2 = (0, 0) ∧ (fieldsR (putsF 0 (fieldsR l).1).1).1.length = (fieldsR l).1.length ∧
    ∀ j (h1 : j < (fieldsR (putsF 0 (fieldsR l).1).1).1.length) (h2 : j < (fieldsR l).1.length), likeF ((fieldsR (putsF 0 (fieldsR l).1).1).1[j]) ((fieldsR l).1[j]) = true := by
  obtain ⟨a1, a2, a3⟩ := fieldsF_all l (l.length + 1) 0 0 (Nat.zero_le _) (by omega) h
  obtain ⟨b1, b2, b3⟩ := fieldsAt_put (fieldsR l).1 (putsF 0 (fieldsR l).1).1 0 0 (fun x hx => (a1 x hx).1) a2 (Nat.zero_le _) rfl
  refine ⟨a2, by have : (putsF 0 (fieldsR l).1).1 = (putsF 0 (fieldsF l (l.length + 1) 0).1).1 := rfl
                 rw [this]; omega, b1, b2, fun j h1 h2 => ?_⟩
  have := b3 j h1 h2
  rwa [(a1 _ (List.getElem_mem h2)).2] at this
end Go.Proofs.YtbjoohafgkodcaaGreat
namespace Go.Proofs.YtbjoohafgkodcaaGreat
open Go Go.RowKit Go.Shelf

theorem fieldsF_len (l : List UInt8) : ∀ (f p : Nat), p ≤ l.length → (fieldsF l f p).1.length ≤ l.length - p
  | 0, p, _ => by simp [fieldsF]
  | f + 1, p, hp => by
    rw [fieldsF_succ]
    by_cases h1 : l.length ≤ p
    · rw [if_pos h1]; simp
    rw [if_neg h1]
    by_cases h2 : (oneR l p).2.1 ≠ 0
    · rw [if_pos h2]; simp
    rw [if_neg h2]
    by_cases h3 : (fieldsF l f (oneR l p).2.2.2).2.1 ≠ 0
    · rw [if_pos h3]; simp
    rw [if_neg h3]
    obtain ⟨-, -, h4, h5, -⟩ := oneR_ok l p hp (by omega)
    have := fieldsF_len l f (oneR l p).2.2.2 h5
    simp only [List.length_cons]; omega
theorem fieldsF_nil (l : List UInt8) : ∀ (f p : Nat), (fieldsF l f p).2.1 ≠ 0 → (fieldsF l f p).1 = []
  | 0, p, h => absurd rfl h
  | f + 1, p, h => by
    rw [fieldsF_succ] at h ⊢
    by_cases h1 : l.length ≤ p
    · rw [if_pos h1] at h; exact absurd rfl h
    rw [if_neg h1] at h ⊢
    by_cases h2 : (oneR l p).2.1 ≠ 0
    · rw [if_pos h2]
    rw [if_neg h2] at h ⊢
    by_cases h3 : (fieldsF l f (oneR l p).2.2.2).2.1 ≠ 0
    · rw [if_pos h3]
    rw [if_neg h3] at h; exact absurd rfl h
theorem fieldsF_bd (l : List UInt8) : ∀ (f p : Nat), p ≤ l.length → ∀ x ∈ (fieldsF l f p).1, (fB x).length ≤ 8192
  | 0, p, _, x, hx => by simp [fieldsF] at hx
  | f + 1, p, hp, x, hx => by
    rw [fieldsF_succ] at hx
    by_cases h1 : l.length ≤ p
    · rw [if_pos h1] at hx; simp at hx
    rw [if_neg h1] at hx
    by_cases h2 : (oneR l p).2.1 ≠ 0
    · rw [if_pos h2] at hx; simp at hx
    rw [if_neg h2] at hx
    by_cases h3 : (fieldsF l f (oneR l p).2.2.2).2.1 ≠ 0
    · rw [if_pos h3] at hx; simp at hx
    rw [if_neg h3] at hx
    obtain ⟨-, -, h4, h5, h6⟩ := oneR_ok l p hp (by omega)
    rcases List.mem_cons.1 hx with rfl | hx
    · rw [h6]; exact (valR_bd l _ _).2
    · exact fieldsF_bd l f _ h5 x hx
theorem fieldsR_len (l : List UInt8) : (fieldsR l).1.length ≤ l.length := fieldsF_len l _ 0 (Nat.zero_le _)
theorem fieldsR_nil (l : List UInt8) (h : (fieldsR l).2.1 ≠ 0) : (fieldsR l).1 = [] := fieldsF_nil l _ 0 h
theorem fieldsR_ok (l : List UInt8) (h : (fieldsR l).2.1 = 0) : ∀ x ∈ (fieldsR l).1, x.ok ∧ (fB x).length ≤ 8192 := fun x hx =>
  ⟨((fieldsF_all l _ 0 0 (Nat.zero_le _) (by omega) h).1 x hx).1, fieldsF_bd l _ 0 (Nat.zero_le _) x hx⟩
end Go.Proofs.YtbjoohafgkodcaaGreat
