/- Cleaning and later versions, in plain words. -/
import Derived.Test.YtcjmnpcghmcodaaVa8
namespace Go.Proofs.Ytcjmnpcghmcodaa
open Go Go.RowKit Go.Shelf

theorem rows_place : ∀ r ∈ rowsAll, ∀ q ∈ rowsAll, r.1 = q.1 → rSlot r = rSlot q → ((rTyp r ≤ 6 ∧ rTyp q ≤ 6) ∨ (7 ≤ rTyp r ∧ rTyp r ≤ 9 ∧ 7 ≤ rTyp q ∧ rTyp q ≤ 9)) → r = q := by decide +kernel
theorem rows_list : ∀ r ∈ rowsAll, ∀ q ∈ rowsAll, r.1 = q.1 → 10 ≤ rTyp r → 10 ≤ rTyp q → r = q := by decide +kernel
theorem sameB_iff (a b : Msg) : sameB a b = true ↔ a.k = b.k ∧ (∀ i, i < 6 → a.n i = b.n i) ∧ (∀ i, i < 2 → a.s i = b.s i) ∧ a.l = b.l := by
  unfold sameB
  simp only [Bool.and_eq_true, beq_iff_eq, and_assoc]
  have h1 : nL a = nL b ↔ ∀ i, i < 6 → a.n i = b.n i := by
    unfold nL
    simp only [List.cons.injEq, and_true]
    constructor
    · intro h i hi
      rcases (show i = 0 ∨ i = 1 ∨ i = 2 ∨ i = 3 ∨ i = 4 ∨ i = 5 by omega) with e | e | e | e | e | e <;> subst e <;> omega
    · intro h
      rw [h 0 (by omega), h 1 (by omega), h 2 (by omega), h 3 (by omega), h 4 (by omega), h 5 (by omega)]
      simp
  have h2 : sL a = sL b ↔ ∀ i, i < 2 → a.s i = b.s i := by
    unfold sL
    simp only [List.cons.injEq, and_true]
    constructor
    · intro h i hi
      rcases (show i = 0 ∨ i = 1 by omega) with e | e <;> subst e
      · exact h.1
      · exact h.2
    · intro h
      exact ⟨h 0 (by omega), h 1 (by omega)⟩
  rw [h1, h2]
theorem hasN_iff (l : List Row) (i : Nat) : hasN l i = true ↔ ∃ r ∈ l, rTyp r ≤ 6 ∧ rSlot r = i := by
  unfold hasN; simp [List.any_eq_true]
theorem hasS_iff (l : List Row) (i : Nat) : hasS l i = true ↔ ∃ r ∈ l, 7 ≤ rTyp r ∧ rTyp r ≤ 9 ∧ rSlot r = i := by
  unfold hasS; simp [List.any_eq_true, and_assoc]
theorem hasL_iff (l : List Row) : hasL l = true ↔ ∃ r ∈ l, 10 ≤ rTyp r := by
  unfold hasL; simp [List.any_eq_true]
/-- what is in a field's place -/
theorem numB_nat (t : Nat) : numB (t : Int) = true ↔ 1 ≤ t ∧ t ≤ 6 := by unfold numB; simp; omega
theorem txtB_nat (t : Nat) : txtB (t : Int) = true ↔ 7 ≤ t ∧ t ≤ 9 := by unfold txtB; simp; omega
/-- two messages with the same in a field's place -/
theorem err_same {a b : Msg} {r : Row} (h1 : plN a (rTyp r) (rSlot r) = plN b (rTyp r) (rSlot r)) (h2 : plS a (rTyp r) (rSlot r) = plS b (rTyp r) (rSlot r)) (h3 : plL a (rTyp r) = plL b (rTyp r)) : errR a r = errR b r := by
  unfold errR errM; rw [h1, h2, h3]
theorem pl_clean {m : Msg} {l : List Row} {r : Row} (hr : r ∈ l) : plN (cleanM m l) (rTyp r) (rSlot r) = plN m (rTyp r) (rSlot r) ∧ plS (cleanM m l) (rTyp r) (rSlot r) = plS m (rTyp r) (rSlot r) ∧ plL (cleanM m l) (rTyp r) = plL m (rTyp r) := by
  refine ⟨?_, ?_, ?_⟩
  · unfold plN
    by_cases h : numB (rTyp r : Int) = true ∧ (0 : Int) ≤ (rSlot r : Int) ∧ (rSlot r : Int) < 6
    · rw [if_pos h, if_pos h]
      have := (numB_nat _).1 h.1
      simp only [cleanM, Int.toNat_natCast]
      rw [if_pos ((hasN_iff _ _).2 ⟨r, hr, this.2, rfl⟩)]
    · rw [if_neg h, if_neg h]
  · unfold plS
    by_cases h : txtB (rTyp r : Int) = true ∧ (0 : Int) ≤ (rSlot r : Int) ∧ (rSlot r : Int) < 2
    · rw [if_pos h, if_pos h]
      have := (txtB_nat _).1 h.1
      simp only [cleanM, Int.toNat_natCast]
      rw [if_pos ((hasS_iff _ _).2 ⟨r, hr, this.1, this.2, rfl⟩)]
    · rw [if_neg h, if_neg h]
  · unfold plL
    by_cases h : ((rTyp r : Nat) : Int) = 10
    · rw [if_pos h, if_pos h]
      simp only [cleanM]
      rw [if_pos ((hasL_iff _).2 ⟨r, hr, by omega⟩)]
    · rw [if_neg h, if_neg h]
theorem err_clean {m : Msg} {l : List Row} {r : Row} (hr : r ∈ l) : errR (cleanM m l) r = errR m r := err_same (pl_clean hr).1 (pl_clean hr).2.1 (pl_clean hr).2.2
theorem clean_clean (m : Msg) (l : List Row) : sameB (cleanM (cleanM m l) l) (cleanM m l) = true := by
  rw [sameB_iff]
  refine ⟨rfl, fun i _ => ?_, fun i _ => ?_, ?_⟩
  · simp only [cleanM]; split <;> rfl
  · simp only [cleanM]; split <;> rfl
  · simp only [cleanM]; split <;> rfl
theorem find_congr {l : List Row} {p q : Row → Bool} (h : ∀ r ∈ l, p r = q r) : l.find? p = l.find? q := by
  induction l with
  | nil => rfl
  | cons x l ih =>
    rw [List.find?_cons, List.find?_cons, h x List.mem_cons_self, ih (fun r hr => h r (List.mem_cons_of_mem _ hr))]
/-- what is wrong with a message that was cleaned -/
theorem chk_clean (m : Msg) (l : List Row) : chkM (cleanM m l) l = if (chkM m l).1 = 20 then (0, 0) else chkM m l := by
  unfold chkM
  by_cases hl : l = []
  · rw [if_pos hl, if_pos hl]; rfl
  rw [if_neg hl, if_neg hl]
  have e := find_congr (l := l) (p := fun r => errR (cleanM m l) r != 0) (q := fun r => errR m r != 0) (fun r hr => by rw [err_clean hr])
  rw [e]
  cases h : l.find? (fun r => errR m r != 0) with
  | some r =>
    have hm := List.mem_of_find?_eq_some h
    have hle : errR m r ≠ 20 := by
      unfold errR errM
      repeat' split
      · omega
      · have := chkV_le (plS m (rTyp r) (rSlot r)) (mostV (rTyp r)); omega
      · omega
      · have : ∀ (ls : List ByteArray), firstE (mostV (rTyp r)) ls ≤ 9 := fun ls => by
          induction ls with
          | nil => simp [firstE]
          | cons x ls ih =>
            unfold firstE; split
            · exact ih
            · exact chkV_le _ _
        have := this (plL m (rTyp r)); omega
    simp only
    rw [err_clean hm, if_neg hle]
  | none =>
    simp only
    rw [clean_clean, if_pos rfl]
    by_cases c : sameB (cleanM m l) m = true
    · rw [if_pos c]; rfl
    · rw [if_neg c]; rfl
/-- a message that may be -/
theorem chk_zero {m : Msg} {l : List Row} : (chkM m l).1 = 0 ↔ l ≠ [] ∧ (∀ r ∈ l, errR m r = 0) ∧ sameB (cleanM m l) m = true := by
  unfold chkM
  by_cases hl : l = []
  · rw [if_pos hl]; simp [hl]
  rw [if_neg hl]
  cases h : l.find? (fun r => errR m r != 0) with
  | some r =>
    have h1 := List.find?_some h
    have hm := List.mem_of_find?_eq_some h
    simp only
    constructor
    · intro h2; simp [h2] at h1
    · intro h2; exact h2.2.1 r hm
  | none =>
    have h1 := List.find?_eq_none.1 h
    simp only
    constructor
    · intro h2
      refine ⟨hl, fun r hr => by have := h1 r hr; simpa using this, ?_⟩
      by_cases c : sameB (cleanM m l) m = true
      · exact c
      · rw [if_neg c] at h2; cases h2
    · intro h2; rw [if_pos h2.2.2]
theorem chk_zero2 {m : Msg} {l : List Row} (h : (chkM m l).1 = 0) : chkM m l = (0, 0) := by
  obtain ⟨h1, h2, h3⟩ := chk_zero.1 h
  have hn : l.find? (fun r => errR m r != 0) = none := by
    rw [List.find?_eq_none]; intro r hr; rw [h2 r hr]; simp
  unfold chkM
  rw [if_neg h1, hn]
  simp only
  rw [if_pos h3]
theorem ofKind_mem {k : Nat} {ver : Int} {r : Row} : r ∈ ofKind k (rowsIn ver) ↔ r ∈ rowsAll ∧ r.1 = k ∧ 1 ≤ ver ∧ ver ≤ 3 ∧ (r.2.2.2.2 : Int) ≤ ver := by
  unfold ofKind rowsIn
  rw [List.mem_filter]
  by_cases h : ver < 1 ∨ 3 < ver
  · rw [if_pos h]; simp; omega
  · rw [if_neg h, List.mem_filter]
    simp [inV]
    constructor
    · rintro ⟨⟨a, b⟩, c⟩; exact ⟨a, c, by omega, by omega, b⟩
    · rintro ⟨a, c, -, -, b⟩; exact ⟨⟨a, b⟩, c⟩
/-- what may be in a version may be in a later one -/
theorem chk_later {m : Msg} {ver later : Int} (h : (chkM m (ofKind m.k (rowsIn ver))).1 = 0) (h1 : ver ≤ later) (h2 : later ≤ 3) : chkM m (ofKind m.k (rowsIn later)) = (0, 0) := by
  obtain ⟨hne, he, hs⟩ := chk_zero.1 h
  have hsub : ∀ r, r ∈ ofKind m.k (rowsIn ver) → r ∈ ofKind m.k (rowsIn later) := fun r hr => by
    rw [ofKind_mem] at hr ⊢
    exact ⟨hr.1, hr.2.1, by omega, h2, by omega⟩
  obtain ⟨-, hn, ht, hll⟩ := (sameB_iff _ _).1 hs
  refine chk_zero2 (chk_zero.2 ⟨?_, ?_, ?_⟩)
  · intro e
    apply hne
    rw [List.eq_nil_iff_forall_not_mem]
    intro r hr
    have := hsub r hr
    rw [e] at this; cases this
  · intro q hq
    by_cases hqv : q ∈ ofKind m.k (rowsIn ver)
    · exact he q hqv
    have hqa := ofKind_mem.1 hq
    have hok := rows_ok q hqa.1
    have hd : defB m (rTyp q) (rSlot q) = true := by
      unfold defB
      have e1 : plN m (rTyp q) (rSlot q) = 0 := by
        unfold plN
        by_cases c : numB (rTyp q : Int) = true ∧ (0 : Int) ≤ (rSlot q : Int) ∧ (rSlot q : Int) < 6
        · rw [if_pos c, Int.toNat_natCast]
          have c6 := ((numB_nat _).1 c.1).2
          have := hn (rSlot q) (by omega)
          simp only [cleanM] at this
          by_cases d : hasN (ofKind m.k (rowsIn ver)) (rSlot q) = true
          · obtain ⟨r, hr, hr6, hrs⟩ := (hasN_iff _ _).1 d
            have hra := ofKind_mem.1 hr
            exact absurd (rows_place r hra.1 q hqa.1 (by rw [hra.2.1, hqa.2.1]) hrs (.inl ⟨hr6, c6⟩) ▸ hr) hqv
          · rw [if_neg d] at this; exact this.symm
        · rw [if_neg c]
      have e2 : plS m (rTyp q) (rSlot q) = ⟨#[]⟩ := by
        unfold plS
        by_cases c : txtB (rTyp q : Int) = true ∧ (0 : Int) ≤ (rSlot q : Int) ∧ (rSlot q : Int) < 2
        · rw [if_pos c, Int.toNat_natCast]
          have c6 := (txtB_nat _).1 c.1
          have := ht (rSlot q) (by omega)
          simp only [cleanM] at this
          by_cases d : hasS (ofKind m.k (rowsIn ver)) (rSlot q) = true
          · obtain ⟨r, hr, hr7, hr9, hrs⟩ := (hasS_iff _ _).1 d
            have hra := ofKind_mem.1 hr
            exact absurd (rows_place r hra.1 q hqa.1 (by rw [hra.2.1, hqa.2.1]) hrs (.inr ⟨hr7, hr9, c6⟩) ▸ hr) hqv
          · rw [if_neg d] at this; exact this.symm
        · rw [if_neg c]
      have e3 : plL m (rTyp q) = [] := by
        unfold plL
        by_cases c : ((rTyp q : Nat) : Int) = 10
        · rw [if_pos c]
          simp only [cleanM] at hll
          by_cases d : hasL (ofKind m.k (rowsIn ver)) = true
          · obtain ⟨r, hr, hr10⟩ := (hasL_iff _).1 d
            have hra := ofKind_mem.1 hr
            exact absurd (rows_list r hra.1 q hqa.1 (by rw [hra.2.1, hqa.2.1]) hr10 (by omega) ▸ hr) hqv
          · rw [if_neg d] at hll; exact hll.symm
        · rw [if_neg c]
      rw [e1, e2, e3]
      first | decide +kernel | (refine Eq.trans ?_ (Eq.refl true); kernel_rfl)
    exact def_err hd (by omega)
  · rw [sameB_iff]
    refine ⟨rfl, fun i hi => ?_, fun i hi => ?_, ?_⟩
    · have := hn i hi
      simp only [cleanM] at this ⊢
      by_cases d : hasN (ofKind m.k (rowsIn later)) i = true
      · rw [if_pos d]
      · have d2 : ¬ hasN (ofKind m.k (rowsIn ver)) i = true := fun d2 => d (by obtain ⟨r, hr, x⟩ := (hasN_iff _ _).1 d2; exact (hasN_iff _ _).2 ⟨r, hsub r hr, x⟩)
        rw [if_neg d]; rw [if_neg d2] at this; exact this
    · have := ht i hi
      simp only [cleanM] at this ⊢
      by_cases d : hasS (ofKind m.k (rowsIn later)) i = true
      · rw [if_pos d]
      · have d2 : ¬ hasS (ofKind m.k (rowsIn ver)) i = true := fun d2 => d (by obtain ⟨r, hr, x⟩ := (hasS_iff _ _).1 d2; exact (hasS_iff _ _).2 ⟨r, hsub r hr, x⟩)
        rw [if_neg d]; rw [if_neg d2] at this; exact this
    · simp only [cleanM] at hll ⊢
      by_cases d : hasL (ofKind m.k (rowsIn later)) = true
      · rw [if_pos d]
      · have d2 : ¬ hasL (ofKind m.k (rowsIn ver)) = true := fun d2 => d (by obtain ⟨r, hr, x⟩ := (hasL_iff _).1 d2; exact (hasL_iff _).2 ⟨r, hsub r hr, x⟩)
        rw [if_neg d]; rw [if_neg d2] at hll; exact hll
end Go.Proofs.Ytcjmnpcghmcodaa
