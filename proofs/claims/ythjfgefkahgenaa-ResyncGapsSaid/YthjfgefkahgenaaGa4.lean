/- How often a place is covered; rows of counters. -/
import Derived.Test.YthjfgefkahgenaaGa3
namespace Go.Proofs.Ythjfgefkahgenaa
open Go Go.RowKit Go.Shelf

/-- how many of the spans hold place k -/
def cov : List GV → Nat → Nat
  | [], _ => 0
  | p :: ps, k => (if p.1 ≤ k ∧ k < p.2 then 1 else 0) + cov ps k
theorem cov_append (ps qs : List GV) (k : Nat) : cov (ps ++ qs) k = cov ps k + cov qs k := by
  induction ps with
  | nil => simp [cov]
  | cons p ps ih => rw [List.cons_append, cov, cov, ih]; omega
theorem cov_le (ps : List GV) (k : Nat) : cov ps k ≤ ps.length := by
  induction ps with
  | nil => simp [cov]
  | cons p ps ih => rw [cov, List.length_cons]; split <;> omega
/-- the spans of frames -/
def spans (fs : List Fnd) : List GV := fs.map fun x => (x.1, fend x)
/-- frames one behind the other, from s to e -/
def ordF (e : Nat) : Nat → List Fnd → Prop
  | s, [] => s ≤ e
  | s, x :: fs => s ≤ x.1 ∧ ordF e (fend x) fs
theorem ordF_mono {e : Nat} : ∀ {fs : List Fnd} {s s' : Nat}, s ≤ s' → ordF e s' fs → ordF e s fs
  | [], _, _, h, h2 => Nat.le_trans h h2
  | _ :: _, _, _, h, h2 => ⟨Nat.le_trans h h2.1, h2.2⟩
theorem ordF_le {e : Nat} : ∀ {fs : List Fnd} {s : Nat}, ordF e s fs → s ≤ e
  | [], _, h => h
  | x :: fs, s, h => by have := ordF_le h.2; have := h.1; unfold fend at *; omega
theorem walk_ord (ended : Bool) (l : List UInt8) (k : Nat) : ordF (walkL ended l k).2.2 k (walkL ended l k).1 := by
  refine walk_ind (ended := ended) (C := fun l k => ordF (walkL ended l k).2.2 k (walkL ended l k).1) ?_ ?_ ?_ ?_ l k
  · intro k; simp [walkL_nil, ordF]
  · intro l k h ih
    have hf := fof_len (ferr_zero h).1
    rw [walkL_ok k h]
    refine ⟨Nat.le_refl _, ?_⟩
    show ordF _ (k + ((fof l).2.length + 9)) _
    rw [hf]; exact ih
  · intro l k hl h he
    subst he
    rw [walkL_short k h]; exact Nat.le_refl _
  · intro l k hl h h4 ih
    rw [walkL_pass k hl h h4]
    exact ordF_mono (Nat.le_succ _) ih
theorem cov_tail (s k j : Nat) : cov (tailG s k) j = if s ≤ j ∧ j < k then 1 else 0 := by
  unfold tailG
  split
  · simp [cov]
  · rw [cov, if_neg (by omega)]
/-- gaps and frames are all places, each once -/
theorem cov_all (e : Nat) : ∀ (fs : List Fnd) (s : Nat), ordF e s fs → ∀ k, cov (refG e fs s) k + cov (spans fs) k = if s ≤ k ∧ k < e then 1 else 0
  | [], s, h, k => by rw [refG, cov_tail]; simp [spans, cov]
  | x :: fs, s, h, k => by
    have ih := cov_all e fs (fend x) h.2 k
    have h1 := h.1
    have h2 := ordF_le h.2
    have hx : x.1 ≤ fend x := by unfold fend; omega
    rw [refG, cov_append, cov_tail]
    show _ + _ + ((if x.1 ≤ k ∧ k < fend x then 1 else 0) + cov (spans fs) k) = _
    by_cases c1 : k < s
    · rw [if_neg (by omega)] at ih
      rw [if_neg (by omega), if_neg (by omega), if_neg (by omega)]; omega
    by_cases c2 : k < x.1
    · rw [if_neg (by omega)] at ih
      rw [if_pos (by omega), if_neg (by omega), if_pos (by omega)]; omega
    by_cases c3 : k < fend x
    · rw [if_neg (by omega)] at ih
      rw [if_neg (by omega), if_pos (by omega), if_pos (by omega)]; omega
    · rw [if_neg (by omega), if_neg (by omega)]
      by_cases c4 : k < e
      · rw [if_pos (by omega)] at ih
        rw [if_pos (by omega)]; omega
      · rw [if_neg (by omega)] at ih
        rw [if_neg (by omega)]; omega
theorem refG_len (e : Nat) : ∀ (fs : List Fnd) (s : Nat), (refG e fs s).length ≤ fs.length + 1
  | [], s => tailG_len s e
  | x :: fs, s => by
    have := refG_len e fs (fend x)
    have := tailG_len s x.1
    rw [refG, List.length_append, List.length_cons]; omega
/-- each gap is none that is empty, behind s, up to e, and apart from the one ahead of it -/
theorem refG_apart (e : Nat) : ∀ (fs : List Fnd) (s : Nat), ordF e s fs → (∀ p ∈ refG e fs s, s ≤ p.1 ∧ p.1 < p.2 ∧ p.2 ≤ e) ∧ (refG e fs s).Pairwise (fun p q => p.2 < q.1)
  | [], s, h => by
    rw [refG]; unfold tailG
    split
    · exact ⟨fun p hp => by rw [List.mem_singleton.1 hp]; exact ⟨Nat.le_refl _, by assumption, Nat.le_refl _⟩, List.pairwise_singleton _ _⟩
    · exact ⟨(fun p hp => absurd hp (by simp)), List.Pairwise.nil⟩
  | x :: fs, s, h => by
    obtain ⟨i1, i2⟩ := refG_apart e fs (fend x) h.2
    have h1 := h.1
    have h2 := ordF_le h.2
    have hx : x.1 < fend x := by unfold fend; omega
    rw [refG]
    unfold tailG
    split
    · rename_i hs
      refine ⟨fun p hp => ?_, ?_⟩
      · rcases List.mem_append.1 hp with hp | hp
        · rw [List.mem_singleton.1 hp]; exact ⟨Nat.le_refl _, hs, by simp only; omega⟩
        · have := i1 p hp; omega
      · rw [List.singleton_append]
        exact List.Pairwise.cons (fun q hq => by have := i1 q hq; simp only; omega) i2
    · rw [List.nil_append]
      exact ⟨fun p hp => by have := i1 p hp; omega, i2⟩

/-! ## counters -/
def hadL (n : Nat) (c : Nat → Nat) : List Value := (List.range n).map fun k => .int .i64 (c k : Nat)
theorem hadL_get (n : Nat) (c : Nat → Nat) (j : Nat) (hj : j < n) : (hadL n c).toArray[j]? = some (.int .i64 (c j : Nat)) := by
  simp [hadL, List.getElem?_range, hj]
theorem hadL_set (n : Nat) (c : Nat → Nat) (j m : Nat) (hj : j < n) : (hadL n c).toArray.setIfInBounds j (.int .i64 (m : Nat)) = (hadL n fun k => if k = j then m else c k).toArray := by
  apply Array.ext
  · simp [hadL]
  · intro i h1 h2
    simp [hadL] at h1 h2
    by_cases e : j = i
    · subst e; simp [hadL]
    · rw [Array.getElem_setIfInBounds_ne (by simpa [hadL] using h1) e]
      simp [hadL, Ne.symm e]
theorem hadL_congr (n : Nat) (c d : Nat → Nat) (h : ∀ k, k < n → c k = d k) : hadL n c = hadL n d := by
  unfold hadL
  apply List.map_congr_left
  intro k hk
  rw [h k (List.mem_range.1 hk)]
theorem hadL_zero (n : Nat) : hadL n (fun _ => 0) = List.replicate n (.int .i64 0) := by
  simp [hadL, List.map_const']
/-- one more at place j of a span that begins at s -/
theorem cov_step (I : List GV) (s j k : Nat) (hj : s ≤ j) : (cov I k + (if s ≤ k ∧ k < j then 1 else 0)) + (if k = j then 1 else 0) = cov I k + (if s ≤ k ∧ k < j + 1 then 1 else 0) := by
  by_cases h1 : s ≤ k ∧ k < j
  · rw [if_pos h1, if_neg (by omega), if_pos (by omega)]
  · rw [if_neg h1]
    by_cases h2 : k = j
    · rw [if_pos h2, if_pos (by omega)]
    · rw [if_neg h2, if_neg (by omega)]
theorem cov_snoc (I : List GV) (p : GV) (k : Nat) : cov (I ++ [p]) k = cov I k + (if p.1 ≤ k ∧ k < p.2 then 1 else 0) := by
  rw [cov_append]; simp [cov]
end Go.Proofs.Ythjfgefkahgenaa
