/- rescriptref09.Clean: contract. -/
import Derived.Test.YtcibhkiddeggmaaVa6
namespace Go.Proofs.Ytcibhkiddeggmaa
open Go Go.RowKit Go.Shelf

def clLv (l : List Row) (lv : Value) : Value := if hasL l = true then lv else .slice none 0 0
def clA (m : Msg) (l : List Row) (lv : Value) : Array Value := msgA (cleanM m l) (clLv l lv)
theorem clA_num (m : Msg) (l : List Row) (r : Row) (lv : Value) (ht : rTyp r ≤ 6) (hs : rSlot r < 6) : (clA m l lv).setIfInBounds (1 + rSlot r) (.int .u64 (m.n (rSlot r) : Nat)) = clA m (l ++ [r]) lv := by
  have e1 : ∀ i, (cleanM m (l ++ [r])).n i = if i = rSlot r then m.n i else (cleanM m l).n i := fun i => by
    simp only [cleanM, hasN_snoc, decide_eq_true ht, Bool.true_and]
    by_cases c : i = rSlot r
    · subst c; simp
    · have : (rSlot r == i) = false := by simpa using fun h => c h.symm
      rw [this, Bool.or_false, if_neg c]
  have e2 : ∀ i, (cleanM m (l ++ [r])).s i = (cleanM m l).s i := fun i => by
    simp only [cleanM, hasS_snoc, decide_eq_false (show ¬ 7 ≤ rTyp r by omega), Bool.false_and, Bool.or_false]
  have e3 : clLv (l ++ [r]) lv = clLv l lv := by
    simp only [clLv, hasL_snoc, decide_eq_false (show ¬ 10 ≤ rTyp r by omega), Bool.or_false]
  unfold clA msgA
  simp only [e1, e2, e3]
  rcases (show rSlot r = 0 ∨ rSlot r = 1 ∨ rSlot r = 2 ∨ rSlot r = 3 ∨ rSlot r = 4 ∨ rSlot r = 5 by omega) with c | c | c | c | c | c <;> rw [c] <;> simp [cleanM]
theorem clA_txt (m : Msg) (l : List Row) (r : Row) (lv : Value) (h7 : 7 ≤ rTyp r) (h9 : rTyp r ≤ 9) (hs : rSlot r < 2) : (clA m l lv).setIfInBounds (7 + rSlot r) (.string (m.s (rSlot r))) = clA m (l ++ [r]) lv := by
  have e1 : ∀ i, (cleanM m (l ++ [r])).s i = if i = rSlot r then m.s i else (cleanM m l).s i := fun i => by
    simp only [cleanM, hasS_snoc, decide_eq_true h7, decide_eq_true h9, Bool.true_and]
    by_cases c : i = rSlot r
    · subst c; simp
    · have : (rSlot r == i) = false := by simpa using fun h => c h.symm
      rw [this, Bool.or_false, if_neg c]
  have e2 : ∀ i, (cleanM m (l ++ [r])).n i = (cleanM m l).n i := fun i => by
    simp only [cleanM, hasN_snoc, decide_eq_false (show ¬ rTyp r ≤ 6 by omega), Bool.false_and, Bool.or_false]
  have e3 : clLv (l ++ [r]) lv = clLv l lv := by
    simp only [clLv, hasL_snoc, decide_eq_false (show ¬ 10 ≤ rTyp r by omega), Bool.or_false]
  unfold clA msgA
  simp only [e1, e2, e3]
  rcases (show rSlot r = 0 ∨ rSlot r = 1 by omega) with c | c <;> rw [c] <;> simp [cleanM]
theorem clA_lst (m : Msg) (l : List Row) (r : Row) (lv : Value) (h : 10 ≤ rTyp r) : (clA m l lv).setIfInBounds 9 lv = clA m (l ++ [r]) lv := by
  have e1 : ∀ i, (cleanM m (l ++ [r])).n i = (cleanM m l).n i := fun i => by
    simp only [cleanM, hasN_snoc, decide_eq_false (show ¬ rTyp r ≤ 6 by omega), Bool.false_and, Bool.or_false]
  have e2 : ∀ i, (cleanM m (l ++ [r])).s i = (cleanM m l).s i := fun i => by
    simp only [cleanM, hasS_snoc, decide_eq_false (show ¬ rTyp r ≤ 9 by omega), Bool.and_false, Bool.false_and, Bool.or_false]
  have e3 : clLv (l ++ [r]) lv = lv := by
    simp only [clLv, hasL_snoc, decide_eq_true h, Bool.or_true, if_true]
  unfold clA msgA
  simp only [e1, e2, e3]
  rfl
theorem clA_0 (m : Msg) (lv : Value) : clA m [] lv = #[.int .u8 m.k, .int .u64 0, .int .u64 0, .int .u64 0, .int .u64 0, .int .u64 0, .int .u64 0, .string ⟨#[]⟩, .string ⟨#[]⟩, .slice none 0 0] := rfl
theorem rangeAt_grew {W W' : World} {b o : Nat} {cs : List Value} (h : W.rangeAt b o cs) (g : Grew W W') : W'.rangeAt b o cs := fun j v hv => (below_ext g) _ _ (h j v hv)
theorem blk_range {W : World} {b : Nat} {t : TypeId} {cs : Array Value} (h : Blk W b t cs) : W.rangeAt b 0 cs.toList := fun j v hv => by
  rw [Nat.zero_add, h.cell j, ← Array.getElem?_toList]; exact hv
theorem msg_cells {W : World} {b : Nat} {t : TypeId} {m : Msg} {lv : Value} (h : Blk W b t (msgA m lv)) :
    W.cell? ⟨b, 0, none⟩ = some (.int .u8 m.k) ∧ W.cell? ⟨b, 1, none⟩ = some (.int .u64 (m.n 0)) ∧ W.cell? ⟨b, 2, none⟩ = some (.int .u64 (m.n 1)) ∧ W.cell? ⟨b, 3, none⟩ = some (.int .u64 (m.n 2)) ∧ W.cell? ⟨b, 4, none⟩ = some (.int .u64 (m.n 3)) ∧
    W.cell? ⟨b, 5, none⟩ = some (.int .u64 (m.n 4)) ∧ W.cell? ⟨b, 6, none⟩ = some (.int .u64 (m.n 5)) ∧ W.cell? ⟨b, 7, none⟩ = some (.string (m.s 0)) ∧ W.cell? ⟨b, 8, none⟩ = some (.string (m.s 1)) ∧ W.cell? ⟨b, 9, none⟩ = some lv := by
  refine ⟨?_, ?_, ?_, ?_, ?_, ?_, ?_, ?_, ?_, ?_⟩ <;> (rw [h.cell]; rfl)
theorem clLv_tx {W : World} {lv : Value} {m : Msg} {l : List Row} (h : Tx W lv m.l) : Tx W (clLv l lv) (cleanM m l).l := by
  unfold clLv cleanM; simp only
  split
  · exact h
  · exact Sl.nil W 1

end Go.Proofs.Ytcibhkiddeggmaa
