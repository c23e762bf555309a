/- Fields that were read: how many there are, and how long they are. No walk. ; What is read, and put, is read alike, and is no longer: in plain words. No walk. -/
import Derived.Test.YtgoaijpckckdnaaSkP
namespace Go.Proofs.Ytgoaijpckckdnaa
open Go Go.RowKit Go.Shelf

theorem vgetL_pow (l : List UInt8) : ∀ i acc, acc < 128 ^ i → (vgetL i acc l).2.2 = 0 → (vgetL i acc l).1 < 128 ^ (vgetL i acc l).2.1 ∧ 1 ≤ (vgetL i acc l).2.1 := by
  induction l with
  | nil => intro i acc ha h; simp [vgetL] at h
  | cons b t ih =>
    intro i acc ha h
    unfold vgetL at h ⊢
    by_cases h1 : i = 9 ∧ 128 ≤ b.toNat
    · rw [if_pos h1] at h; simp at h
    rw [if_neg h1] at h ⊢
    by_cases h2 : i = 9 ∧ 2 ≤ b.toNat
    · rw [if_pos h2] at h; simp at h
    rw [if_neg h2] at h ⊢
    by_cases h3 : b.toNat < 128
    · rw [if_pos h3]; exact ⟨mul_pow_lt acc b.toNat i ha h3, by simp only; omega⟩
    · rw [if_neg h3] at h ⊢
      have hb := b.toNat_lt
      exact ih (i + 1) _ (mul_pow_lt acc (b.toNat - 128) i ha (by omega)) h
theorem vget_min (l : List UInt8) (h : (vget l).2.2 = 0) : (vput (vget l).1).length ≤ (vget l).2.1 := by
  have h1 := vgetL_pow l 0 0 (by simp) h
  have h2 : (vget l).2.1 - 1 + 1 = (vget l).2.1 := by have := h1.2; unfold vget; omega
  have h3 := vput_len ((vget l).2.1 - 1) (vget l).1 (by rw [h2]; exact h1.1)
  omega
theorem tsplit_back {n : Nat} (h : (tsplit n).2.2 = 0) : tmake (tsplit n).1 (tsplit n).2.1 = (n, 0) := by
  have hk := tsplit_ok n h
  unfold tsplit at h hk ⊢
  by_cases h1 : n / 8 < 1 ∨ 536870911 < n / 8
  · rw [if_pos h1] at h; simp at h
  rw [if_neg h1] at h hk ⊢
  by_cases h2 : wireB (n % 8) = false
  · rw [if_pos h2] at h; simp at h
  rw [if_neg h2]
  simp only
  unfold tmake
  rw [if_neg (by omega), if_neg h2]
  refine Prod.ext ?_ rfl
  simp only; omega
theorem valR_0 (l : List UInt8) (q : Nat) : valR l q 0 = ((vget (l.drop q)).1, [], (vget (l.drop q)).2.2, q + (vget (l.drop q)).2.1) := rfl
theorem valR_1 (l : List UInt8) (q : Nat) : valR l q 1 = ((fixR l q 8).1, [], (fixR l q 8).2.1, (fixR l q 8).2.2) := rfl
theorem valR_5 (l : List UInt8) (q : Nat) : valR l q 5 = ((fixR l q 4).1, [], (fixR l q 4).2.1, (fixR l q 4).2.2) := rfl
theorem valR_2 (l : List UInt8) (q : Nat) : valR l q 2 = (0, (bytesR l q 8192).1, (bytesR l q 8192).2.1, (bytesR l q 8192).2.2) := rfl
theorem valB_0 (num : Int) (n : Nat) (b : List UInt8) (a : Int) : valB (num, 0, n, b, a) = vput n := rfl
theorem valB_1 (num : Int) (n : Nat) (b : List UInt8) (a : Int) : valB (num, 1, n, b, a) = fixB 8 n := rfl
theorem valB_5 (num : Int) (n : Nat) (b : List UInt8) (a : Int) : valB (num, 5, n, b, a) = fixB 4 (n % 4294967296) := rfl
theorem valB_2 (num : Int) (n : Nat) (b : List UInt8) (a : Int) : valB (num, 2, n, b, a) = vput b.length ++ b := rfl
theorem bareF_5 (num : Int) (n : Nat) (b : List UInt8) (a : Int) : bareF (num, 5, n, b, a) = (num, 5, n % 4294967296, [], a) := rfl
theorem valR_min {l : List UInt8} {q : Nat} {w : Nat} {num at_ : Int} (hq : q ≤ l.length) (h : (valR l q w).2.2.1 = 0) (hw : wireB w = true) :
    q + (valB (num, w, (valR l q w).1, (valR l q w).2.1, at_)).length ≤ (valR l q w).2.2.2 ∧
    bareF (num, w, (valR l q w).1, (valR l q w).2.1, at_) = (num, w, (valR l q w).1, (valR l q w).2.1, at_) := by
  rcases wireB_or hw with rfl | rfl | rfl | rfl
  · rw [valR_0] at h ⊢
    simp only at h ⊢
    rw [valB_0]
    have := vget_min _ h
    exact ⟨by omega, rfl⟩
  · rw [valR_1] at h ⊢
    simp only at h ⊢
    rw [valB_1, fixB_length]
    unfold fixR at h ⊢
    by_cases h1 : (l.drop q).length < 8
    · rw [if_pos h1] at h; simp at h
    · rw [if_neg h1]; exact ⟨Nat.le_refl _, rfl⟩
  · rw [valR_2] at h ⊢
    simp only at h ⊢
    rw [valB_2]
    refine ⟨?_, rfl⟩
    unfold bytesR at h ⊢
    by_cases h1 : (vget (l.drop q)).2.2 ≠ 0
    · rw [if_pos h1] at h; exact absurd h h1
    rw [if_neg h1] at h ⊢
    by_cases h2 : (8192 : Int) < 0 ∨ (8192 : Int) < ((vget (l.drop q)).1 : Int)
    · rw [if_pos h2] at h; simp at h
    rw [if_neg h2] at h ⊢
    unfold cutR at h ⊢
    by_cases h3 : l.length - q < (vget (l.drop q)).2.1 + (vget (l.drop q)).1
    · rw [if_pos h3] at h; simp at h
    rw [if_neg h3]
    have hm := vget_min (l.drop q) (by omega)
    have hl : ((l.drop (q + (vget (l.drop q)).2.1)).take (vget (l.drop q)).1).length = (vget (l.drop q)).1 := by rw [List.length_take, List.length_drop]; omega
    simp only [List.length_append, hl]
    omega
  · rw [valR_5] at h ⊢
    simp only at h ⊢
    rw [valB_5, fixB_length, bareF_5]
    unfold fixR at h ⊢
    by_cases h1 : (l.drop q).length < 4
    · rw [if_pos h1] at h; simp at h
    · rw [if_neg h1]
      refine ⟨Nat.le_refl _, ?_⟩
      have h4 := unfix_lt ((l.drop q).take 4)
      have h5 : ((l.drop q).take 4).length = 4 := by rw [List.length_take]; omega
      rw [h5] at h4
      have : (256:Nat)^4 = 4294967296 := by decide
      rw [Nat.mod_eq_of_lt (by simp only; omega)]
/-- one field, read and put -/
theorem oneR_min {l : List UInt8} {p : Nat} (hp : p ≤ l.length) (h : (oneR l p).2.1 = 0) : ((oneR l p).1).ok ∧ (putF (oneR l p).1).2 = 0 ∧ p + (putF (oneR l p).1).1.length ≤ (oneR l p).2.2.2 ∧ bareF (oneR l p).1 = (oneR l p).1 := by
  obtain ⟨h1, h2, h3, h4, h5⟩ := oneR_ok l p hp h
  rw [h5]
  obtain ⟨t1, t2, t3, t4, t5⟩ := tagR_ok l p hp h1
  obtain ⟨v1, v2⟩ := valR_min (num := ((tagR l p).1 : Int)) (at_ := (p : Int)) t2 h2 t5
  have vb := valR_bd l (tagR l p).2.2.2 (tagR l p).2.1
  have hw := wireB_or t5
  have hmk : tmake ((tagR l p).1 : Int) (tagR l p).2.1 = ((vget (l.drop p)).1, 0) ∧ p + (vput (vget (l.drop p)).1).length ≤ (tagR l p).2.2.2 := by
    unfold tagR at h1 ⊢
    by_cases q1 : (vget (l.drop p)).2.2 ≠ 0
    · rw [if_pos q1] at h1; exact absurd h1 q1
    rw [if_neg q1] at h1 ⊢
    by_cases q2 : (tsplit (vget (l.drop p)).1).2.2 ≠ 0
    · rw [if_pos q2] at h1; exact absurd h1 q2
    rw [if_neg q2]
    have := vget_min (l.drop p) (by omega)
    exact ⟨tsplit_back (by omega), by simp only; omega⟩
  have hok : (putF (((tagR l p).1 : Int), (tagR l p).2.1, (valR l (tagR l p).2.2.2 (tagR l p).2.1).1, (valR l (tagR l p).2.2.2 (tagR l p).2.1).2.1, (p : Int))) = (vput (vget (l.drop p)).1 ++ valB (((tagR l p).1 : Int), (tagR l p).2.1, (valR l (tagR l p).2.2.2 (tagR l p).2.1).1, (valR l (tagR l p).2.2.2 (tagR l p).2.1).2.1, (p : Int)), 0) := by
    unfold putF
    simp only [fNum, fWire, fB]
    rw [hmk.1, if_neg (by simp), if_neg (by omega)]
  refine ⟨⟨by simp only [fNum]; omega, by simp only [fNum]; omega, by simp only [fWire]; omega, vb.1⟩, by rw [hok], ?_, v2⟩
  rw [hok]
  simp only [List.length_append]
  omega
theorem fieldsF_all (l : List UInt8) : ∀ (f p i : Nat), p ≤ l.length → l.length < p + f → (fieldsF l f p).2.1 = 0 →
    (∀ x ∈ (fieldsF l f p).1, x.ok ∧ bareF x = x) ∧ (putsF i (fieldsF l f p).1).2.1 = 0 ∧ p + (putsF i (fieldsF l f p).1).1.length ≤ l.length
  | 0, p, i, hp, hf, _ => by omega
  | f + 1, p, i, hp, hf, h => by
    rw [fieldsF_succ] at h ⊢
    by_cases h1 : l.length ≤ p
    · rw [if_pos h1]; exact ⟨fun x hx => by simp at hx, rfl, by simp [putsF]; exact hp⟩
    rw [if_neg h1] at h ⊢
    by_cases h2 : (oneR l p).2.1 ≠ 0
    · rw [if_pos h2] at h; exact absurd h h2
    rw [if_neg h2] at h ⊢
    by_cases h3 : (fieldsF l f (oneR l p).2.2.2).2.1 ≠ 0
    · rw [if_pos h3] at h; exact absurd h h3
    rw [if_neg h3]
    have ho := oneR_ok l p hp (by omega)
    obtain ⟨m1, m2, m3, m4⟩ := oneR_min hp (by omega)
    obtain ⟨a1, a2, a3⟩ := fieldsF_all l f (oneR l p).2.2.2 (i + 1) ho.2.2.2.1 (by omega) (by omega)
    refine ⟨fun x hx => ?_, ?_, ?_⟩
    · rcases List.mem_cons.1 hx with rfl | hx
      · exact ⟨m1, m4⟩
      · exact a1 x hx
    · rw [putsF_cons, if_neg (by omega), if_neg (by omega)]
    · rw [putsF_cons, if_neg (by omega), if_neg (by omega)]
      simp only [List.length_append]; omega
theorem fieldsR_again (l : List UInt8) (h : (fieldsR l).2.1 = 0) : (putsF 0 (fieldsR l).1).2.1 = 0 ∧ (putsF 0 (fieldsR l).1).1.length ≤ l.length ∧
    (fieldsR (putsF 0 (fieldsR l).1).1).2 = (0, 0) ∧ (fieldsR (putsF 0 (fieldsR l).1).1).1.length = (fieldsR l).1.length ∧
    ∀ j (h1 : j < (fieldsR (putsF 0 (fieldsR l).1).1).1.length) (h2 : j < (fieldsR l).1.length), likeF ((fieldsR (putsF 0 (fieldsR l).1).1).1[j]) ((fieldsR l).1[j]) = true := by
  obtain ⟨a1, a2, a3⟩ := fieldsF_all l (l.length + 1) 0 0 (Nat.zero_le _) (by omega) h
  obtain ⟨b1, b2, b3⟩ := fieldsAt_put (fieldsR l).1 (putsF 0 (fieldsR l).1).1 0 0 (fun x hx => (a1 x hx).1) a2 (Nat.zero_le _) rfl
  refine ⟨a2, by have : (putsF 0 (fieldsR l).1).1 = (putsF 0 (fieldsF l (l.length + 1) 0).1).1 := rfl
                 rw [this]; omega, b1, b2, fun j h1 h2 => ?_⟩
  have := b3 j h1 h2
  rwa [(a1 _ (List.getElem_mem h2)).2] at this
end Go.Proofs.Ytgoaijpckckdnaa
namespace Go.Proofs.Ytgoaijpckckdnaa
open Go Go.RowKit Go.Shelf

theorem fieldsF_len (l : List UInt8) : ∀ (f p : Nat), p ≤ l.length → (fieldsF l f p).1.length ≤ l.length - p
  | 0, p, _ => by simp [fieldsF]
  | f + 1, p, hp => by
    rw [fieldsF_succ]
    by_cases h1 : l.length ≤ p
    · rw [if_pos h1]; simp
    rw [if_neg h1]
    by_cases h2 : (oneR l p).2.1 ≠ 0
    · rw [if_pos h2]; simp
    rw [if_neg h2]
    by_cases h3 : (fieldsF l f (oneR l p).2.2.2).2.1 ≠ 0
    · rw [if_pos h3]; simp
    rw [if_neg h3]
    obtain ⟨-, -, h4, h5, -⟩ := oneR_ok l p hp (by omega)
    have := fieldsF_len l f (oneR l p).2.2.2 h5
    simp only [List.length_cons]; omega
theorem fieldsF_nil (l : List UInt8) : ∀ (f p : Nat), (fieldsF l f p).2.1 ≠ 0 → (fieldsF l f p).1 = []
  | 0, p, h => absurd rfl h
  | f + 1, p, h => by
    rw [fieldsF_succ] at h ⊢
    by_cases h1 : l.length ≤ p
    · rw [if_pos h1] at h; exact absurd rfl h
    rw [if_neg h1] at h ⊢
    by_cases h2 : (oneR l p).2.1 ≠ 0
    · rw [if_pos h2]
    rw [if_neg h2] at h ⊢
    by_cases h3 : (fieldsF l f (oneR l p).2.2.2).2.1 ≠ 0
    · rw [if_pos h3]
    rw [if_neg h3] at h; exact absurd rfl h
theorem fieldsF_bd (l : List UInt8) : ∀ (f p : Nat), p ≤ l.length → ∀ x ∈ (fieldsF l f p).1, (fB x).length ≤ 8192
  | 0, p, _, x, hx => by simp [fieldsF] at hx
  | f + 1, p, hp, x, hx => by
    rw [fieldsF_succ] at hx
    by_cases h1 : l.length ≤ p
    · rw [if_pos h1] at hx; simp at hx
    rw [if_neg h1] at hx
    by_cases h2 : (oneR l p).2.1 ≠ 0
    · rw [if_pos h2] at hx; simp at hx
    rw [if_neg h2] at hx
    by_cases h3 : (fieldsF l f (oneR l p).2.2.2).2.1 ≠ 0
    · rw [if_pos h3] at hx; simp at hx
    rw [if_neg h3] at hx
    obtain ⟨-, -, h4, h5, h6⟩ := oneR_ok l p hp (by omega)
    rcases List.mem_cons.1 hx with rfl | hx
    · rw [h6]; exact (valR_bd l _ _).2
    · exact fieldsF_bd l f _ h5 x hx
theorem fieldsR_len (l : List UInt8) : (fieldsR l).1.length ≤ l.length := fieldsF_len l _ 0 (Nat.zero_le _)
theorem fieldsR_nil (l : List UInt8) (h : (fieldsR l).2.1 ≠ 0) : (fieldsR l).1 = [] := fieldsF_nil l _ 0 h
theorem fieldsR_ok (l : List UInt8) (h : (fieldsR l).2.1 = 0) : ∀ x ∈ (fieldsR l).1, x.ok ∧ (fB x).length ≤ 8192 := fun x hx =>
  ⟨((fieldsF_all l _ 0 0 (Nat.zero_le _) (by omega) h).1 x hx).1, fieldsF_bd l _ 0 (Nat.zero_le _) x hx⟩
end Go.Proofs.Ytgoaijpckckdnaa
