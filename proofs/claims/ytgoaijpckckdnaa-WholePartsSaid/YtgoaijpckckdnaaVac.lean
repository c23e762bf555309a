/- Messages in plain words: cleaning, checking. No walk. -/
import Derived.Test.YtgoaijpckckdnaaVam
namespace Go.Proofs.Ytgoaijpckckdnaa
open Go Go.RowKit Go.Shelf

abbrev rTyp (r : Row) : Nat := r.2.2.1
abbrev rSlot (r : Row) : Nat := r.2.2.2.1
/-- has some of these fields number i, text i, a list? -/
def hasN (l : List Row) (i : Nat) : Bool := l.any fun r => decide (rTyp r ≤ 6) && rSlot r == i
def hasS (l : List Row) (i : Nat) : Bool := l.any fun r => decide (7 ≤ rTyp r) && decide (rTyp r ≤ 9) && rSlot r == i
def hasL (l : List Row) : Bool := l.any fun r => decide (10 ≤ rTyp r)
/-- of a message only what these fields have -/
def cleanM (m : Msg) (l : List Row) : Msg := ⟨m.k, fun i => if hasN l i = true then m.n i else 0, fun i => if hasS l i = true then m.s i else ⟨#[]⟩, if hasL l = true then m.l else []⟩
theorem rows_ok : ∀ r ∈ rowsAll, 1 ≤ rTyp r ∧ rTyp r ≤ 10 ∧ (rTyp r ≤ 6 → rSlot r < 6) ∧ (7 ≤ rTyp r → rTyp r ≤ 9 → rSlot r < 2) := by decide
theorem ofKind_sub {k : Nat} {ver : Int} {r : Row} (h : r ∈ ofKind k (rowsIn ver)) : r ∈ rowsAll ∧ r.1 = k := by
  unfold ofKind at h
  rw [List.mem_filter] at h
  refine ⟨?_, by simpa using h.2⟩
  have h1 := h.1
  unfold rowsIn at h1
  split at h1
  · cases h1
  · exact (List.mem_filter.1 h1).1
theorem of_ok {k : Nat} {ver : Int} {r : Row} (h : r ∈ ofKind k (rowsIn ver)) : 1 ≤ rTyp r ∧ rTyp r ≤ 10 ∧ (rTyp r ≤ 6 → rSlot r < 6) ∧ (7 ≤ rTyp r → rTyp r ≤ 9 → rSlot r < 2) := rows_ok r (ofKind_sub h).1
theorem ofKind_le (k : Nat) (ver : Int) : (ofKind k (rowsIn ver)).length ≤ 40 := Nat.le_trans (List.length_filter_le _ _) (rowsIn_len ver)
theorem hasN_snoc (l : List Row) (r : Row) (i : Nat) : hasN (l ++ [r]) i = (hasN l i || (decide (rTyp r ≤ 6) && rSlot r == i)) := by simp [hasN]
theorem hasS_snoc (l : List Row) (r : Row) (i : Nat) : hasS (l ++ [r]) i = (hasS l i || (decide (7 ≤ rTyp r) && decide (rTyp r ≤ 9) && rSlot r == i)) := by simp [hasS]
theorem hasL_snoc (l : List Row) (r : Row) : hasL (l ++ [r]) = (hasL l || decide (10 ≤ rTyp r)) := by simp [hasL]
/-- arrays of bools -/
def nbA (l : List Row) : Array Value := #[.bool (hasN l 0), .bool (hasN l 1), .bool (hasN l 2), .bool (hasN l 3), .bool (hasN l 4), .bool (hasN l 5)]
def sbA (l : List Row) : Array Value := #[.bool (hasS l 0), .bool (hasS l 1)]
theorem nbA_set (l : List Row) (r : Row) (ht : rTyp r ≤ 6) (hs : rSlot r < 6) : (nbA l).setIfInBounds (rSlot r) (.bool true) = nbA (l ++ [r]) := by
  unfold nbA
  simp only [hasN_snoc, decide_eq_true ht, Bool.true_and]
  rcases (show rSlot r = 0 ∨ rSlot r = 1 ∨ rSlot r = 2 ∨ rSlot r = 3 ∨ rSlot r = 4 ∨ rSlot r = 5 by omega) with e | e | e | e | e | e <;> rw [e] <;> simp
theorem nbA_keep (l : List Row) (r : Row) (ht : ¬ rTyp r ≤ 6) : nbA (l ++ [r]) = nbA l := by
  unfold nbA
  simp only [hasN_snoc, decide_eq_false ht, Bool.false_and, Bool.or_false]
theorem sbA_set (l : List Row) (r : Row) (ht : 7 ≤ rTyp r) (ht9 : rTyp r ≤ 9) (hs : rSlot r < 2) : (sbA l).setIfInBounds (rSlot r) (.bool true) = sbA (l ++ [r]) := by
  unfold sbA
  simp only [hasS_snoc, decide_eq_true ht, decide_eq_true ht9, Bool.true_and]
  rcases (show rSlot r = 0 ∨ rSlot r = 1 by omega) with e | e <;> rw [e] <;> simp
theorem sbA_keep (l : List Row) (r : Row) (ht : ¬ (7 ≤ rTyp r ∧ rTyp r ≤ 9)) : sbA (l ++ [r]) = sbA l := by
  unfold sbA
  have : (decide (7 ≤ rTyp r) && decide (rTyp r ≤ 9)) = false := by simp; omega
  simp only [hasS_snoc, this, Bool.false_and, Bool.or_false]
/-- numbers ahead of i are cleaned -/
def cutN (m : Msg) (l : List Row) (k : Nat) : Nat → Nat := fun i => if i < k ∧ hasN l i = false then 0 else m.n i
def cutS (m : Msg) (l : List Row) (k : Nat) : Nat → ByteArray := fun i => if i < k ∧ hasS l i = false then ⟨#[]⟩ else m.s i
def numsA (k : Nat) (n : Nat → Nat) (s : Nat → ByteArray) (lv : Value) : Array Value := #[.int .u8 k, .int .u64 (n 0), .int .u64 (n 1), .int .u64 (n 2), .int .u64 (n 3), .int .u64 (n 4), .int .u64 (n 5), .string (s 0), .string (s 1), lv]
theorem msgA_eq (m : Msg) (lv : Value) : msgA m lv = numsA m.k m.n m.s lv := rfl
theorem cutN_set (m : Msg) (l : List Row) (k : Nat) (hk : k < 6) (h : hasN l k = false) (s : Nat → ByteArray) (lv : Value) : (numsA m.k (cutN m l k) s lv).setIfInBounds (1 + k) (.int .u64 0) = numsA m.k (cutN m l (k + 1)) s lv := by
  have e : ∀ i, cutN m l (k + 1) i = if i = k then 0 else cutN m l k i := fun i => by
    unfold cutN
    by_cases c : i = k
    · subst c; rw [if_pos ⟨by omega, h⟩, if_pos rfl]
    · rw [if_neg c]
      by_cases d : i < k ∧ hasN l i = false
      · rw [if_pos d, if_pos ⟨by omega, d.2⟩]
      · rw [if_neg d, if_neg (fun x => d ⟨by omega, x.2⟩)]
  unfold numsA
  simp only [e]
  rcases (show k = 0 ∨ k = 1 ∨ k = 2 ∨ k = 3 ∨ k = 4 ∨ k = 5 by omega) with c | c | c | c | c | c <;> subst c <;> simp
theorem cutN_keep (m : Msg) (l : List Row) (k : Nat) (h : hasN l k = true) : cutN m l (k + 1) = cutN m l k := by
  funext i
  unfold cutN
  by_cases c : i = k
  · subst c; rw [if_neg (by rw [h]; simp), if_neg (by rw [h]; simp)]
  · by_cases d : i < k ∧ hasN l i = false
    · rw [if_pos d, if_pos ⟨by omega, d.2⟩]
    · rw [if_neg d, if_neg (fun x => d ⟨by omega, x.2⟩)]
theorem cutN_all (m : Msg) (l : List Row) (s : Nat → ByteArray) (lv : Value) : numsA m.k (cutN m l 6) s lv = numsA m.k (cleanM m l).n s lv := by
  have e : ∀ i, i < 6 → cutN m l 6 i = (cleanM m l).n i := fun i hi => by
    unfold cutN cleanM
    cases h : hasN l i with
    | true => rw [if_neg (by simp)]; simp [h]
    | false => rw [if_pos ⟨hi, rfl⟩]; simp [h]
  unfold numsA
  rw [e 0 (by omega), e 1 (by omega), e 2 (by omega), e 3 (by omega), e 4 (by omega), e 5 (by omega)]
theorem cutS_set (m : Msg) (l : List Row) (k : Nat) (hk : k < 2) (h : hasS l k = false) (n : Nat → Nat) (lv : Value) : (numsA m.k n (cutS m l k) lv).setIfInBounds (7 + k) (.string ⟨#[]⟩) = numsA m.k n (cutS m l (k + 1)) lv := by
  have e : ∀ i, cutS m l (k + 1) i = if i = k then ⟨#[]⟩ else cutS m l k i := fun i => by
    unfold cutS
    by_cases c : i = k
    · subst c; rw [if_pos ⟨by omega, h⟩, if_pos rfl]
    · rw [if_neg c]
      by_cases d : i < k ∧ hasS l i = false
      · rw [if_pos d, if_pos ⟨by omega, d.2⟩]
      · rw [if_neg d, if_neg (fun x => d ⟨by omega, x.2⟩)]
  unfold numsA
  simp only [e]
  rcases (show k = 0 ∨ k = 1 by omega) with c | c <;> subst c <;> simp
theorem cutS_keep (m : Msg) (l : List Row) (k : Nat) (h : hasS l k = true) : cutS m l (k + 1) = cutS m l k := by
  funext i
  unfold cutS
  by_cases c : i = k
  · subst c; rw [if_neg (by rw [h]; simp), if_neg (by rw [h]; simp)]
  · by_cases d : i < k ∧ hasS l i = false
    · rw [if_pos d, if_pos ⟨by omega, d.2⟩]
    · rw [if_neg d, if_neg (fun x => d ⟨by omega, x.2⟩)]
theorem cutS_all (m : Msg) (l : List Row) (n : Nat → Nat) (lv : Value) : numsA m.k n (cutS m l 2) lv = numsA m.k n (cleanM m l).s lv := by
  have e : ∀ i, i < 2 → cutS m l 2 i = (cleanM m l).s i := fun i hi => by
    unfold cutS cleanM
    cases h : hasS l i with
    | true => rw [if_neg (by simp)]; simp [h]
    | false => rw [if_pos ⟨hi, rfl⟩]; simp [h]
  unfold numsA
  rw [e 0 (by omega), e 1 (by omega)]
theorem cutN_0 (m : Msg) (l : List Row) : cutN m l 0 = m.n := by funext i; unfold cutN; rw [if_neg (by omega)]
theorem cutS_0 (m : Msg) (l : List Row) : cutS m l 0 = m.s := by funext i; unfold cutS; rw [if_neg (by omega)]
theorem idx6 (b0 b1 b2 b3 b4 b5 : Bool) (f : Nat → Bool) (h0 : f 0 = b0) (h1 : f 1 = b1) (h2 : f 2 = b2) (h3 : f 3 = b3) (h4 : f 4 = b4) (h5 : f 5 = b5) (k : Nat) (hk : k < 6) (W : World) :
    (Instr.index 169 (.agg #[.bool b0, .bool b1, .bool b2, .bool b3, .bool b4, .bool b5]) (.int .i64 (k : Int))).run Try.prog W = .ok (.bool (f k)) W := by
  rcases (show k = 0 ∨ k = 1 ∨ k = 2 ∨ k = 3 ∨ k = 4 ∨ k = 5 by omega) with c | c | c | c | c | c <;> subst c
  · rw [h0]; kernel_rfl
  · rw [h1]; kernel_rfl
  · rw [h2]; kernel_rfl
  · rw [h3]; kernel_rfl
  · rw [h4]; kernel_rfl
  · rw [h5]; kernel_rfl
theorem idx2 (b0 b1 : Bool) (f : Nat → Bool) (h0 : f 0 = b0) (h1 : f 1 = b1) (k : Nat) (hk : k < 2) (W : World) :
    (Instr.index 170 (.agg #[.bool b0, .bool b1]) (.int .i64 (k : Int))).run Try.prog W = .ok (.bool (f k)) W := by
  rcases (show k = 0 ∨ k = 1 by omega) with c | c <;> subst c
  · rw [h0]; kernel_rfl
  · rw [h1]; kernel_rfl
end Go.Proofs.Ytgoaijpckckdnaa
