/- Fields that were read: how many there are, and how long they are. No walk. -/
import Derived.Test.YtgoaijpckckdnaaSkA
namespace Go.Proofs.Ytgoaijpckckdnaa
open Go Go.RowKit Go.Shelf

theorem fieldsF_len (l : List UInt8) : ∀ (f p : Nat), p ≤ l.length → (fieldsF l f p).1.length ≤ l.length - p
  | 0, p, _ => by simp [fieldsF]
  | f + 1, p, hp => by
    rw [fieldsF_succ]
    by_cases h1 : l.length ≤ p
    · rw [if_pos h1]; simp
    rw [if_neg h1]
    by_cases h2 : (oneR l p).2.1 ≠ 0
    · rw [if_pos h2]; simp
    rw [if_neg h2]
    by_cases h3 : (fieldsF l f (oneR l p).2.2.2).2.1 ≠ 0
    · rw [if_pos h3]; simp
    rw [if_neg h3]
    obtain ⟨-, -, h4, h5, -⟩ := oneR_ok l p hp (by omega)
    have := fieldsF_len l f (oneR l p).2.2.2 h5
    simp only [List.length_cons]; omega
theorem fieldsF_nil (l : List UInt8) : ∀ (f p : Nat), (fieldsF l f p).2.1 ≠ 0 → (fieldsF l f p).1 = []
  | 0, p, h => absurd rfl h
  | f + 1, p, h => by
    rw [fieldsF_succ] at h ⊢
    by_cases h1 : l.length ≤ p
    · rw [if_pos h1] at h; exact absurd rfl h
    rw [if_neg h1] at h ⊢
    by_cases h2 : (oneR l p).2.1 ≠ 0
    · rw [if_pos h2]
    rw [if_neg h2] at h ⊢
    by_cases h3 : (fieldsF l f (oneR l p).2.2.2).2.1 ≠ 0
    · rw [if_pos h3]
    rw [if_neg h3] at h; exact absurd rfl h
theorem fieldsF_bd (l : List UInt8) : ∀ (f p : Nat), p ≤ l.length → ∀ x ∈ (fieldsF l f p).1, (fB x).length ≤ 8192
  | 0, p, _, x, hx => by simp [fieldsF] at hx
  | f + 1, p, hp, x, hx => by
    rw [fieldsF_succ] at hx
    by_cases h1 : l.length ≤ p
    · rw [if_pos h1] at hx; simp at hx
    rw [if_neg h1] at hx
    by_cases h2 : (oneR l p).2.1 ≠ 0
    · rw [if_pos h2] at hx; simp at hx
    rw [if_neg h2] at hx
    by_cases h3 : (fieldsF l f (oneR l p).2.2.2).2.1 ≠ 0
    · rw [if_pos h3] at hx; simp at hx
    rw [if_neg h3] at hx
    obtain ⟨-, -, h4, h5, h6⟩ := oneR_ok l p hp (by omega)
    rcases List.mem_cons.1 hx with rfl | hx
    · rw [h6]; exact (valR_bd l _ _).2
    · exact fieldsF_bd l f _ h5 x hx
theorem fieldsR_len (l : List UInt8) : (fieldsR l).1.length ≤ l.length := fieldsF_len l _ 0 (Nat.zero_le _)
theorem fieldsR_nil (l : List UInt8) (h : (fieldsR l).2.1 ≠ 0) : (fieldsR l).1 = [] := fieldsF_nil l _ 0 h
theorem fieldsR_ok (l : List UInt8) (h : (fieldsR l).2.1 = 0) : ∀ x ∈ (fieldsR l).1, x.ok ∧ (fB x).length ≤ 8192 := fun x hx =>
  ⟨((fieldsF_all l _ 0 0 (Nat.zero_le _) (by omega) h).1 x hx).1, fieldsF_bd l _ 0 (Nat.zero_le _) x hx⟩
end Go.Proofs.Ytgoaijpckckdnaa
