/- Where fields begin and end. No walk. -/
import Derived.Test.YtgoaijpckckdnaaSkB
import Derived.Test.YtgoaijpckckdnaaSkN
namespace Go.Proofs.Ytgoaijpckckdnaa
open Go Go.RowKit Go.Shelf

theorem fieldsF_cons {l : List UInt8} {f p : Nat} {x : Fld} {t : List Fld} (hp : p ≤ l.length) (h : (fieldsF l (f + 1) p).1 = x :: t) :
    p < l.length ∧ (oneR l p).2.1 = 0 ∧ x = (oneR l p).1 ∧ fAt x = (p : Int) ∧ t = (fieldsF l f (oneR l p).2.2.2).1 ∧ (oneR l p).2.2.2 ≤ l.length := by
  rw [fieldsF_succ] at h
  by_cases h1 : l.length ≤ p
  · rw [if_pos h1] at h; simp at h
  rw [if_neg h1] at h
  by_cases h2 : (oneR l p).2.1 ≠ 0
  · rw [if_pos h2] at h; simp at h
  rw [if_neg h2] at h
  by_cases h3 : (fieldsF l f (oneR l p).2.2.2).2.1 ≠ 0
  · rw [if_pos h3] at h; simp at h
  rw [if_neg h3] at h
  obtain ⟨-, -, h4, h5, h6⟩ := oneR_ok l p hp (by omega)
  simp only [List.cons.injEq] at h
  refine ⟨by omega, by omega, h.1.symm, ?_, h.2.symm, h5⟩
  rw [← h.1, h6]
theorem fieldsF_chain (l : List UInt8) : ∀ (f p j : Nat) (x : Fld), p ≤ l.length → (fieldsF l f p).1[j]? = some x →
    ∃ q : Nat, fAt x = (q : Int) ∧ q < l.length ∧ (oneR l q).2.1 = 0 ∧ (j = 0 → q = p) ∧ ∀ y, (fieldsF l f p).1[j + 1]? = some y → fAt y = ((oneR l q).2.2.2 : Int)
  | 0, p, j, x, _, h => by simp [fieldsF] at h
  | f + 1, p, j, x, hp, h => by
    match hx : (fieldsF l (f + 1) p).1, j, h with
    | [], j, h => simp at h
    | y :: t, 0, h =>
      simp only [List.getElem?_cons_zero, Option.some.injEq] at h
      subst h
      obtain ⟨h1, h2, h3, h4, h5, h6⟩ := fieldsF_cons hp hx
      refine ⟨p, h4, h1, h2, fun _ => rfl, fun z hz => ?_⟩
      simp only [List.getElem?_cons_succ] at hz
      rw [h5] at hz
      obtain ⟨q, k1, -, -, k4, -⟩ := fieldsF_chain l f _ 0 z h6 hz
      rw [k1, k4 rfl]
    | y :: t, j + 1, h =>
      simp only [List.getElem?_cons_succ] at h
      obtain ⟨h1, h2, h3, h4, h5, h6⟩ := fieldsF_cons hp hx
      rw [h5] at h
      obtain ⟨q, k1, k2, k3, -, k5⟩ := fieldsF_chain l f _ j x h6 h
      refine ⟨q, k1, k2, k3, fun e => by omega, fun z hz => ?_⟩
      simp only [List.getElem?_cons_succ] at hz
      rw [h5] at hz
      exact k5 z hz
/-- each field ends where the next one begins -/
theorem endR_next (l : List UInt8) (j : Nat) (x y : Fld) (hx : (fieldsR l).1[j]? = some x) (hy : (fieldsR l).1[j + 1]? = some y) :
    ((endR l (fAt x)).1 : Int) = fAt y ∧ (endR l (fAt x)).2.1 = 0 ∧ (endR l (fAt x)).2.2 = 0 ∧ 0 ≤ fAt x ∧ fAt x ≤ l.length := by
  obtain ⟨q, h1, h2, h3, -, h5⟩ := fieldsF_chain l _ 0 j x (Nat.zero_le _) hx
  have h6 := h5 y hy
  unfold endR
  rw [h1, if_neg (by omega), Int.toNat_natCast, if_neg (by omega)]
  exact ⟨h6.symm, rfl, rfl, by omega, by omega⟩
end Go.Proofs.Ytgoaijpckckdnaa
