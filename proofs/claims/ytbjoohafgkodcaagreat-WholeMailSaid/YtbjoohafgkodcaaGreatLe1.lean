/- Package lenient in plain words: a message behind a field, the message of bytes. No walk. -/
import Derived.Test.YtbjoohafgkodcaaGreatEnq
namespace Go.Proofs.YtbjoohafgkodcaaGreat
open Go Go.RowKit Go.Shelf

/-- bytes as a text -/
def bS (b : List UInt8) : ByteArray := ⟨b.toArray⟩
theorem sB_bS (b : List UInt8) : sB (bS b) = b := by unfold sB bS; simp
theorem bS_sB (s : ByteArray) : bS (sB s) = s := by apply ByteArray.ext; unfold bS sB; simp
theorem bS_size (b : List UInt8) : (bS b).size = b.length := by unfold bS; simp [ByteArray.size]
/-- a number with a sign out of one without, in 64 bits -/
def zagN (n : Nat) : Nat := if n % 2 = 0 then n / 2 else 18446744073709551615 - n / 2
theorem zag_zig {n : Nat} (h : n < 18446744073709551616) : zagN (zigN (wrap64 (n : Int))) = n := by
  unfold zagN zigN wrap64
  split <;> split <;> omega
theorem zagN_lt {n : Nat} (h : n < 18446744073709551616) : zagN n < 18446744073709551616 := by unfold zagN; split <;> omega
/-- what a number's place has behind a field -/
def numV (t : Int) (n : Nat) : Nat := if t = 1 then n % 4294967296 else if t = 4 then min n 1 else if t = 3 then zagN n else n
def mZ : Msg := ⟨0, fun _ => 0, fun _ => ⟨#[]⟩, []⟩
/-- a message behind one field, or what is wrong -/
def setM (m : Msg) (t sl : Int) (x : Fld) : Msg × Nat :=
  if t = 10 then
    if 64 ≤ m.l.length then (mZ, 2)
    else if chkV (bS (fB x)) 64 ≠ 0 then (mZ, chkV (bS (fB x)) 64) else (⟨m.k, m.n, m.s, m.l ++ [bS (fB x)]⟩, 0)
  else if txtB t = true ∧ 0 ≤ sl ∧ sl < 2 then
    if chkV (bS (fB x)) (mostV t) ≠ 0 then (mZ, chkV (bS (fB x)) (mostV t)) else (⟨m.k, m.n, fun i => if i = sl.toNat then bS (fB x) else m.s i, m.l⟩, 0)
  else if numB t = true ∧ 0 ≤ sl ∧ sl < 6 then (⟨m.k, fun i => if i = sl.toNat then numV t (fN x) else m.n i, m.s, m.l⟩, 0)
  else (mZ, 7)
/-- the row that a field belongs to -/
def belR (k : Nat) (ver : Int) (x : Fld) : Option Row :=
  match (rowsIn ver).find? (isField k (fNum x)) with
  | some r => if (wireV r.2.2.1).1 = (fWire x : Int) then some r else none
  | none => none
/-- a message behind fields, or what is wrong, and where -/
def decF (k : Nat) (ver : Int) : Msg → List Fld → Msg × Nat × Int
  | m, [] => (m, 0, 0)
  | m, x :: l => match belR k ver x with
    | none => decF k ver m l
    | some r => if (setM m r.2.2.1 r.2.2.2.1 x).2 ≠ 0 then (mZ, (setM m r.2.2.1 r.2.2.2.1 x).2, fAt x) else decF k ver (setM m r.2.2.1 r.2.2.2.1 x).1 l
def m0 (k : Nat) : Msg := ⟨k, fun _ => 0, fun _ => ⟨#[]⟩, []⟩
/-- the message of bytes, or what is wrong, and where -/
def decM (k : Nat) (ver : Int) (b : List UInt8) : Msg × Nat × Int :=
  if ofKind k (rowsIn ver) = [] then (mZ, 7, 0)
  else if 8192 < b.length then (mZ, 2, 0)
  else if (fieldsR b).2.1 ≠ 0 then (mZ, (fieldsR b).2.1, (fieldsR b).2.2)
  else decF k ver (m0 k) (fieldsR b).1
/-- the fields that are passed over -/
def unkM (k : Nat) (ver : Int) (b : List UInt8) : List Fld × Nat × Int :=
  if (decM k ver b).2.1 ≠ 0 then ([], (decM k ver b).2) else ((fieldsR b).1.filter fun x => (belR k ver x).isNone, 0, 0)
theorem belR_mem {k : Nat} {ver : Int} {x : Fld} {r : Row} (h : belR k ver x = some r) : r ∈ ofKind k (rowsIn ver) ∧ fNum x = (r.2.1 : Int) ∧ (fWire x : Int) = (wireV r.2.2.1).1 := by
  unfold belR at h
  split at h
  · rename_i r' hf
    split at h
    · rename_i hw
      cases h
      have hp := List.find?_some hf
      have hm := List.mem_of_find?_eq_some hf
      unfold isField at hp
      simp at hp
      exact ⟨by unfold ofKind; exact List.mem_filter.2 ⟨hm, by simpa using hp.1⟩, hp.2.symm, hw.symm⟩
    · cases h
  · cases h
theorem belR_good {k : Nat} {ver : Int} {x : Fld} {r : Row} (hr : r ∈ ofKind k (rowsIn ver)) (h1 : fNum x = (r.2.1 : Int)) (h2 : (fWire x : Int) = (wireV r.2.2.1).1) : belR k ver x = some r := by
  unfold belR
  rw [h1, of_find hr]
  simp only
  rw [if_pos h2.symm]
theorem decF_skip {k : Nat} {ver : Int} {m : Msg} {x : Fld} {l : List Fld} (h : belR k ver x = none) : decF k ver m (x :: l) = decF k ver m l := by
  show (match belR k ver x with | none => _ | some r => _) = _
  rw [h]
theorem decF_stop {k : Nat} {ver : Int} {m : Msg} {x : Fld} {l : List Fld} {r : Row} (h : belR k ver x = some r) (he : (setM m r.2.2.1 r.2.2.2.1 x).2 ≠ 0) : decF k ver m (x :: l) = (mZ, (setM m r.2.2.1 r.2.2.2.1 x).2, fAt x) := by
  show (match belR k ver x with | none => _ | some r => _) = _
  rw [h]
  exact if_pos he
theorem decF_step {k : Nat} {ver : Int} {m : Msg} {x : Fld} {l : List Fld} {r : Row} (h : belR k ver x = some r) (he : (setM m r.2.2.1 r.2.2.2.1 x).2 = 0) : decF k ver m (x :: l) = decF k ver (setM m r.2.2.1 r.2.2.2.1 x).1 l := by
  show (match belR k ver x with | none => _ | some r => _) = _
  rw [h]
  exact if_neg (by omega)
theorem decF_app (k : Nat) (ver : Int) : ∀ (a b : List Fld) (m : Msg), (decF k ver m a).2.1 = 0 → decF k ver m (a ++ b) = decF k ver (decF k ver m a).1 b
  | [], b, m, _ => rfl
  | x :: a, b, m, h => by
    rw [List.cons_append]
    cases hb : belR k ver x with
    | none =>
      rw [decF_skip hb] at h
      rw [decF_skip hb, decF_skip hb]
      exact decF_app k ver a b m h
    | some r =>
      by_cases he : (setM m r.2.2.1 r.2.2.2.1 x).2 = 0
      · rw [decF_step hb he] at h
        rw [decF_step hb he, decF_step hb he]
        exact decF_app k ver a b _ h
      · rw [decF_stop hb he] at h; exact absurd h he
/-- an error leaves the empty message -/
theorem decF_err (k : Nat) (ver : Int) : ∀ (l : List Fld) (m : Msg), (decF k ver m l).2.1 ≠ 0 → (decF k ver m l).1 = mZ
  | [], m, h => absurd rfl h
  | x :: l, m, h => by
    cases hb : belR k ver x with
    | none => rw [decF_skip hb] at h ⊢; exact decF_err k ver l m h
    | some r =>
      by_cases he : (setM m r.2.2.1 r.2.2.2.1 x).2 = 0
      · rw [decF_step hb he] at h ⊢; exact decF_err k ver l _ h
      · rw [decF_stop hb he]
theorem decM_err {k : Nat} {ver : Int} {b : List UInt8} (h : (decM k ver b).2.1 ≠ 0) : (decM k ver b).1 = mZ := by
  unfold decM at h ⊢
  split
  · rfl
  split
  · rfl
  split
  · rfl
  · rename_i h1 h2 h3
    rw [if_neg h1, if_neg h2, if_neg h3] at h
    exact decF_err _ _ _ _ h
/-- where the fields stood changes nothing but an error's place -/
theorem belR_st (k : Nat) (ver : Int) (x : Fld) : belR k ver (x.1, x.2.1, x.2.2.1, x.2.2.2.1, 0) = belR k ver x := rfl
theorem decF_st (k : Nat) (ver : Int) : ∀ (l : List Fld) (m : Msg), (decF k ver m (l.map fun x => (x.1, x.2.1, x.2.2.1, x.2.2.2.1, 0))).1 = (decF k ver m l).1 ∧ (decF k ver m (l.map fun x => (x.1, x.2.1, x.2.2.1, x.2.2.2.1, 0))).2.1 = (decF k ver m l).2.1
  | [], m => ⟨rfl, rfl⟩
  | x :: l, m => by
    rw [List.map_cons]
    cases hb : belR k ver x with
    | none => rw [decF_skip hb, decF_skip (by exact hb)]; exact decF_st k ver l m
    | some r =>
      by_cases he : (setM m r.2.2.1 r.2.2.2.1 x).2 = 0
      · rw [decF_step hb he, decF_step (r := r) (by exact hb) (by exact he)]; exact decF_st k ver l _
      · rw [decF_stop hb he, decF_stop (r := r) (by exact hb) (by exact he)]; exact ⟨rfl, rfl⟩
end Go.Proofs.YtbjoohafgkodcaaGreat
