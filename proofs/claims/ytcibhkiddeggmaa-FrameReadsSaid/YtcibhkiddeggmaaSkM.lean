/- Fields in plain words: what is read at a place, what is put. No walk. -/
import Derived.Test.YtcibhkiddeggmaaInb
namespace Go.Proofs.Ytcibhkiddeggmaa
open Go Go.RowKit Go.Shelf

/-- a field: its number, its wire type, its number or its bytes, and where it begins -/
abbrev Fld := Int × Nat × Nat × List UInt8 × Int
abbrev fNum (x : Fld) : Int := x.1
abbrev fWire (x : Fld) : Nat := x.2.1
abbrev fN (x : Fld) : Nat := x.2.2.1
abbrev fB (x : Fld) : List UInt8 := x.2.2.2.1
abbrev fAt (x : Fld) : Int := x.2.2.2.2
def zeroF : Fld := (0, 0, 0, [], 0)

/-! ## reading -/
/-- what stands behind a tag: number, bytes, error, and where one is behind it -/
def valR (l : List UInt8) (q wire : Nat) : Nat × List UInt8 × Nat × Nat :=
  if wire = 0 then ((vget (l.drop q)).1, [], (vget (l.drop q)).2.2, q + (vget (l.drop q)).2.1)
  else if wire = 1 then ((fixR l q 8).1, [], (fixR l q 8).2.1, (fixR l q 8).2.2)
  else if wire = 5 then ((fixR l q 4).1, [], (fixR l q 4).2.1, (fixR l q 4).2.2)
  else (0, (bytesR l q 8192).1, (bytesR l q 8192).2.1, (bytesR l q 8192).2.2)
/-- the field at a place, or what is wrong, and where; and where one is behind it -/
def oneR (l : List UInt8) (p : Nat) : Fld × Nat × Nat × Nat :=
  if (tagR l p).2.2.1 ≠ 0 then (zeroF, (tagR l p).2.2.1, p, (tagR l p).2.2.2)
  else if (valR l (tagR l p).2.2.2 (tagR l p).2.1).2.2.1 ≠ 0 then (zeroF, (valR l (tagR l p).2.2.2 (tagR l p).2.1).2.2.1, (tagR l p).2.2.2, (valR l (tagR l p).2.2.2 (tagR l p).2.1).2.2.2)
  else (((tagR l p).1, (tagR l p).2.1, (valR l (tagR l p).2.2.2 (tagR l p).2.1).1, (valR l (tagR l p).2.2.2 (tagR l p).2.1).2.1, p), 0, 0, (valR l (tagR l p).2.2.2 (tagR l p).2.1).2.2.2)
/-- all fields from a place on, or what is wrong first, and where -/
def fieldsF (l : List UInt8) : Nat → Nat → List Fld × Nat × Nat
  | 0, _ => ([], 0, 0)
  | f + 1, p => if l.length ≤ p then ([], 0, 0) else if (oneR l p).2.1 ≠ 0 then ([], (oneR l p).2.1, (oneR l p).2.2.1)
    else if (fieldsF l f (oneR l p).2.2.2).2.1 ≠ 0 then ([], (fieldsF l f (oneR l p).2.2.2).2)
    else ((oneR l p).1 :: (fieldsF l f (oneR l p).2.2.2).1, 0, 0)
theorem fieldsF_succ (l : List UInt8) (f p : Nat) : fieldsF l (f + 1) p = if l.length ≤ p then ([], 0, 0) else if (oneR l p).2.1 ≠ 0 then ([], (oneR l p).2.1, (oneR l p).2.2.1)
    else if (fieldsF l f (oneR l p).2.2.2).2.1 ≠ 0 then ([], (fieldsF l f (oneR l p).2.2.2).2)
    else ((oneR l p).1 :: (fieldsF l f (oneR l p).2.2.2).1, 0, 0) := rfl
def fieldsR (l : List UInt8) : List Fld × Nat × Nat := fieldsF l (l.length + 1) 0

theorem tagR_err (l : List UInt8) (p : Nat) (h : (tagR l p).2.2.1 ≠ 0) : (tagR l p).2.2.2 = p ∧ (tagR l p).1 = 0 ∧ (tagR l p).2.1 = 0 := by
  unfold tagR at h ⊢
  by_cases h1 : (vget (l.drop p)).2.2 ≠ 0
  · rw [if_pos h1]; exact ⟨rfl, rfl, rfl⟩
  rw [if_neg h1] at h ⊢
  by_cases h2 : (tsplit (vget (l.drop p)).1).2.2 ≠ 0
  · rw [if_pos h2]; exact ⟨rfl, rfl, rfl⟩
  rw [if_neg h2] at h; simp at h
theorem tsplit_ok (n : Nat) (h : (tsplit n).2.2 = 0) : 1 ≤ (tsplit n).1 ∧ (tsplit n).1 ≤ 536870911 ∧ wireB (tsplit n).2.1 = true := by
  unfold tsplit at h ⊢
  by_cases h1 : n / 8 < 1 ∨ 536870911 < n / 8
  · rw [if_pos h1] at h; simp at h
  rw [if_neg h1] at h ⊢
  by_cases h2 : wireB (n % 8) = false
  · rw [if_pos h2] at h; simp at h
  rw [if_neg h2]
  refine ⟨?_, ?_, ?_⟩
  · simp only; omega
  · simp only; omega
  · simpa using h2
theorem wireB_or {w : Nat} (h : wireB w = true) : w = 0 ∨ w = 1 ∨ w = 2 ∨ w = 5 := by
  unfold wireB at h; simp only [Bool.or_eq_true, beq_iff_eq] at h; omega
theorem tagR_ok (l : List UInt8) (p : Nat) (hp : p ≤ l.length) (h : (tagR l p).2.2.1 = 0) : p < (tagR l p).2.2.2 ∧ (tagR l p).2.2.2 ≤ l.length ∧ 1 ≤ (tagR l p).1 ∧ (tagR l p).1 ≤ 536870911 ∧ wireB (tagR l p).2.1 = true := by
  have hb := vget_bd (l.drop p)
  rw [List.length_drop] at hb
  unfold tagR at h ⊢
  by_cases h1 : (vget (l.drop p)).2.2 ≠ 0
  · rw [if_pos h1] at h; exact absurd h h1
  rw [if_neg h1] at h ⊢
  by_cases h2 : (tsplit (vget (l.drop p)).1).2.2 ≠ 0
  · rw [if_pos h2] at h; exact absurd h h2
  rw [if_neg h2]
  have h3 := tsplit_ok (vget (l.drop p)).1 (by omega)
  have h4 := hb.2.2.2.1 (by omega)
  exact ⟨by simp only; omega, by simp only; omega, h3⟩
theorem fixR_next (l : List UInt8) (q k : Nat) (hq : q ≤ l.length) : q ≤ (fixR l q k).2.2 ∧ (fixR l q k).2.2 ≤ l.length := by
  unfold fixR
  rw [List.length_drop]
  split
  · exact ⟨Nat.le_refl _, hq⟩
  · simp only; omega
theorem cutR_next (l : List UInt8) (q a n : Nat) (hq : q ≤ l.length) : q ≤ (cutR l q a n).2.2 ∧ (cutR l q a n).2.2 ≤ l.length := by
  unfold cutR
  split
  · exact ⟨Nat.le_refl _, hq⟩
  · simp only; omega
theorem cutR_len (l : List UInt8) (q a n : Nat) : (cutR l q a n).1.length ≤ n := by
  unfold cutR
  split
  · simp
  · simp only [List.length_take]; omega
theorem bytesR_next (l : List UInt8) (q : Nat) (m : Int) (hq : q ≤ l.length) : q ≤ (bytesR l q m).2.2 ∧ (bytesR l q m).2.2 ≤ l.length := by
  unfold bytesR
  split
  · exact ⟨Nat.le_refl _, hq⟩
  split
  · exact ⟨Nat.le_refl _, hq⟩
  · exact cutR_next l q _ _ hq
theorem bytesR_len (l : List UInt8) (q m : Nat) : (bytesR l q (m : Int)).1.length ≤ m := by
  unfold bytesR
  split
  · simp
  split
  · simp
  · rename_i h
    exact Nat.le_trans (cutR_len _ _ _ _) (by omega)
theorem valR_next (l : List UInt8) (q wire : Nat) (hq : q ≤ l.length) : q ≤ (valR l q wire).2.2.2 ∧ (valR l q wire).2.2.2 ≤ l.length := by
  have hb := vget_bd (l.drop q)
  rw [List.length_drop] at hb
  unfold valR
  split
  · simp only; omega
  split
  · exact fixR_next l q 8 hq
  split
  · exact fixR_next l q 4 hq
  · exact bytesR_next l q 8192 hq
theorem valR_bd (l : List UInt8) (q wire : Nat) : (valR l q wire).1 < 18446744073709551616 ∧ (valR l q wire).2.1.length ≤ 8192 := by
  have hb := vget_bd (l.drop q)
  unfold valR
  split
  · exact ⟨hb.1, by simp⟩
  split
  · refine ⟨?_, by simp⟩
    have := tread_lt (l.drop q) 8
    rw [fixR_tread]; exact this
  split
  · refine ⟨?_, by simp⟩
    have := tread_lt (l.drop q) 4
    rw [fixR_tread]; simp only; omega
  · exact ⟨by omega, bytesR_len l q 8192⟩
theorem oneR_ok (l : List UInt8) (p : Nat) (hp : p ≤ l.length) (h : (oneR l p).2.1 = 0) :
    (tagR l p).2.2.1 = 0 ∧ (valR l (tagR l p).2.2.2 (tagR l p).2.1).2.2.1 = 0 ∧ p < (oneR l p).2.2.2 ∧ (oneR l p).2.2.2 ≤ l.length ∧
    oneR l p = (((((tagR l p).1 : Nat) : Int), (tagR l p).2.1, (valR l (tagR l p).2.2.2 (tagR l p).2.1).1, (valR l (tagR l p).2.2.2 (tagR l p).2.1).2.1, (p : Int)), 0, 0, (valR l (tagR l p).2.2.2 (tagR l p).2.1).2.2.2) := by
  unfold oneR at h ⊢
  by_cases h1 : (tagR l p).2.2.1 ≠ 0
  · rw [if_pos h1] at h; exact absurd h h1
  rw [if_neg h1] at h ⊢
  have h1' : (tagR l p).2.2.1 = 0 := by omega
  by_cases h2 : (valR l (tagR l p).2.2.2 (tagR l p).2.1).2.2.1 ≠ 0
  · rw [if_pos h2] at h; exact absurd h h2
  rw [if_neg h2]
  have ht := tagR_ok l p hp h1'
  have hv := valR_next l (tagR l p).2.2.2 (tagR l p).2.1 ht.2.1
  exact ⟨h1', by omega, by simp only; omega, hv.2, rfl⟩
theorem oneR_next (l : List UInt8) (p : Nat) (hp : p ≤ l.length) : p ≤ (oneR l p).2.2.2 ∧ (oneR l p).2.2.2 ≤ l.length := by
  unfold oneR
  by_cases h1 : (tagR l p).2.2.1 ≠ 0
  · rw [if_pos h1]; have := tagR_err l p h1; simp only; omega
  rw [if_neg h1]
  have ht := tagR_ok l p hp (by omega)
  have hv := valR_next l (tagR l p).2.2.2 (tagR l p).2.1 ht.2.1
  split <;> (simp only; omega)
/-- enough fuel is enough -/
theorem fieldsF_fuel (l : List UInt8) : ∀ (f g p : Nat), p ≤ l.length → l.length < p + f → l.length < p + g → fieldsF l f p = fieldsF l g p
  | 0, _, p, hp, hf, _ => by omega
  | _ + 1, 0, p, hp, _, hg => by omega
  | f + 1, g + 1, p, hp, hf, hg => by
    rw [fieldsF_succ, fieldsF_succ]
    by_cases h1 : l.length ≤ p
    · rw [if_pos h1, if_pos h1]
    rw [if_neg h1, if_neg h1]
    by_cases h2 : (oneR l p).2.1 ≠ 0
    · rw [if_pos h2, if_pos h2]
    rw [if_neg h2, if_neg h2]
    have ho := oneR_ok l p hp (by omega)
    rw [fieldsF_fuel l f g (oneR l p).2.2.2 ho.2.2.2.1 (by omega) (by omega)]
/-- the fields from a place on -/
def fieldsAt (l : List UInt8) (p : Nat) : List Fld × Nat × Nat := fieldsF l (l.length + 1) p
theorem fieldsAt_end {l : List UInt8} {p : Nat} (h : l.length ≤ p) : fieldsAt l p = ([], 0, 0) := by unfold fieldsAt; rw [fieldsF_succ, if_pos h]
theorem fieldsAt_bad {l : List UInt8} {p : Nat} (h : p < l.length) (he : (oneR l p).2.1 ≠ 0) : fieldsAt l p = ([], (oneR l p).2.1, (oneR l p).2.2.1) := by
  unfold fieldsAt; rw [fieldsF_succ, if_neg (by omega), if_pos he]
theorem fieldsAt_step {l : List UInt8} {p : Nat} (h : p < l.length) (he : (oneR l p).2.1 = 0) : fieldsAt l p = if (fieldsAt l (oneR l p).2.2.2).2.1 ≠ 0 then ([], (fieldsAt l (oneR l p).2.2.2).2) else ((oneR l p).1 :: (fieldsAt l (oneR l p).2.2.2).1, 0, 0) := by
  have ho := oneR_ok l p (by omega) he
  have e : fieldsAt l p = if (fieldsF l l.length (oneR l p).2.2.2).2.1 ≠ 0 then ([], (fieldsF l l.length (oneR l p).2.2.2).2) else ((oneR l p).1 :: (fieldsF l l.length (oneR l p).2.2.2).1, 0, 0) := by
    show fieldsF l (l.length + 1) p = _
    rw [fieldsF_succ, if_neg (by omega), if_neg (by omega)]
  rw [e, fieldsF_fuel l l.length (l.length + 1) (oneR l p).2.2.2 ho.2.2.2.1 (by omega) (by omega)]
  rfl
/-- what has been read, and what is to be read -/
def joinF (pre : List Fld) (r : List Fld × Nat × Nat) : List Fld × Nat × Nat := if r.2.1 ≠ 0 then ([], r.2) else (pre ++ r.1, 0, 0)
theorem joinF_nil {l : List UInt8} {p : Nat} : joinF [] (fieldsAt l p) = fieldsAt l p := by
  unfold joinF
  by_cases h : (fieldsAt l p).2.1 ≠ 0
  · rw [if_pos h]
    refine Prod.ext ?_ rfl
    show [] = (fieldsAt l p).1
    unfold fieldsAt at h ⊢
    rw [fieldsF_succ] at h ⊢
    split
    · rfl
    split
    · rfl
    split
    · rfl
    · rename_i h1 h2 h3
      rw [if_neg h1, if_neg h2, if_neg h3] at h; simp at h
  · rw [if_neg h]
    refine Prod.ext rfl ?_
    show (0, 0) = (fieldsAt l p).2
    unfold fieldsAt at h ⊢
    rw [fieldsF_succ] at h ⊢
    split
    · rfl
    split
    · rename_i h1 h2; rw [if_neg h1, if_pos h2] at h; exact absurd h2 (by simpa using h)
    split
    · rename_i h1 h2 h3; rw [if_neg h1, if_neg h2, if_pos h3] at h; exact absurd h3 (by simpa using h)
    · rfl
theorem joinF_step {l : List UInt8} {p : Nat} (pre : List Fld) (h : p < l.length) (he : (oneR l p).2.1 = 0) : joinF pre (fieldsAt l p) = joinF (pre ++ [(oneR l p).1]) (fieldsAt l (oneR l p).2.2.2) := by
  rw [fieldsAt_step h he]
  unfold joinF
  by_cases h2 : (fieldsAt l (oneR l p).2.2.2).2.1 ≠ 0
  · rw [if_pos h2, if_pos h2, if_pos h2]
  · rw [if_neg h2, if_neg h2, if_neg (by simp)]; simp
theorem joinF_bad {l : List UInt8} {p : Nat} (pre : List Fld) (h : p < l.length) (he : (oneR l p).2.1 ≠ 0) : joinF pre (fieldsAt l p) = ([], (oneR l p).2.1, (oneR l p).2.2.1) := by
  rw [fieldsAt_bad h he]; unfold joinF; rw [if_pos he]
theorem joinF_end {l : List UInt8} {p : Nat} (pre : List Fld) (h : l.length ≤ p) : joinF pre (fieldsAt l p) = (pre, 0, 0) := by
  rw [fieldsAt_end h]; unfold joinF; rw [if_neg (by simp)]; simp
end Go.Proofs.Ytcibhkiddeggmaa
