/- The law OutletBack, in plain words: what was written is read again. -/
import Derived.Test.YtakogncnkbgkfaaOwr
import Derived.Test.YtakogncnkbgkfaaInb
namespace Go.Proofs.Ytakogncnkbgkfaa
open Go Go.RowKit Go.Shelf

/-- the bytes of some asks, one behind the other -/
def full5 (A : List Ask5) : List UInt8 := A.flatMap fun a => (askW a).1
theorem full5_drop (A : List Ask5) (k : Nat) (hk : k < A.length) : (full5 A).drop (full5 (A.take k)).length = (askW A[k]).1 ++ full5 (A.drop (k + 1)) := by
  have e : A = A.take k ++ A[k] :: A.drop (k + 1) := by rw [← List.drop_eq_getElem_cons hk, List.take_append_drop]
  have e2 : full5 A = full5 (A.take k) ++ ((askW A[k]).1 ++ full5 (A.drop (k + 1))) := by
    conv => lhs; rw [e]
    unfold full5
    rw [List.flatMap_append, List.flatMap_cons]
  rw [e2, List.drop_left]
theorem full5_snoc (A : List Ask5) (k : Nat) (hk : k < A.length) : full5 (A.take (k + 1)) = full5 (A.take k) ++ (askW A[k]).1 := by
  rw [List.take_succ_eq_append_getElem hk]
  unfold full5
  rw [List.flatMap_append, List.flatMap_singleton]
theorem full5_le (A : List Ask5) (h : ∀ a ∈ A, a.n < 18446744073709551616 ∧ a.wire < 256 ∧ a.B.length ≤ 1000) : (full5 A).length ≤ 2000 * A.length := by
  induction A with
  | nil => simp [full5]
  | cons a A ih =>
    have h1 := h a (List.mem_cons_self ..)
    have h2 := askW_len a h1.1 h1.2.1 h1.2.2
    have h3 := ih fun b hb => h b (List.mem_cons_of_mem _ hb)
    have e : full5 (a :: A) = (askW a).1 ++ full5 A := by simp [full5]
    rw [e, List.length_append, List.length_cons]
    omega
theorem back_var (l t : List UInt8) (at_ n : Nat) (hn : n < 18446744073709551616) (h : l.drop at_ = vput n ++ t) : vget (l.drop at_) = (n, (vput n).length, 0) := by rw [h, vget_vput n t hn]
theorem back_tag (l t : List UInt8) (at_ : Nat) (num : Int) (wire : Nat) (hw : wire < 256) (he : (tmake num wire).2 = 0) (h : l.drop at_ = vput (tmake num wire).1 ++ t) : tagR l at_ = (num.toNat, wire, 0, at_ + (vput (tmake num wire).1).length) := by
  have h1 := tmake_lt num wire hw
  unfold tagR
  rw [back_var l t at_ _ (by omega) h, tsplit_tmake num wire he]
  simp
theorem tmake_num (num : Int) (wire : Nat) (he : (tmake num wire).2 = 0) : ((num.toNat : Nat) : Int) = num := by
  unfold tmake at he
  by_cases h1 : num < 1 ∨ 536870911 < num
  · rw [if_pos h1] at he; simp at he
  · omega
theorem back_fix (l t : List UInt8) (at_ k n : Nat) (hn : n < 256 ^ k) (h : l.drop at_ = fixB k n ++ t) : fixR l at_ k = (n, 0, at_ + k) := by
  unfold fixR
  rw [h, if_neg (by rw [List.length_append, fixB_length]; omega), List.take_append_of_le_length (by rw [fixB_length]; exact Nat.le_refl _), List.take_of_length_le (by rw [fixB_length]; exact Nat.le_refl _), unfix_fixB k n hn]
theorem back_bytes (l t B : List UInt8) (at_ : Nat) (hB : B.length ≤ 1000) (h : l.drop at_ = vput B.length ++ B ++ t) : bytesR l at_ 1000 = (B, 0, at_ + ((vput B.length).length + B.length)) := by
  rw [List.append_assoc] at h
  have hlen : l.length - at_ = (vput B.length).length + (B.length + t.length) := by rw [← List.length_drop, h]; simp
  unfold bytesR
  rw [back_var l _ at_ _ (by omega) h, if_neg (by simp), if_neg (by simp only [not_or, Int.not_lt]; omega)]
  unfold cutR
  rw [if_neg (by simp only; omega)]
  have e : l.drop (at_ + (vput B.length).length) = B ++ t := by rw [← List.drop_drop, h, List.drop_left]
  simp only [e, List.take_left]
theorem askW_ok1 (a : Ask5) (h : (askW a).2 ≠ 0) : a.kind = 1 := by
  unfold askW at h
  split at h
  · simp at h
  split at h
  · assumption
  split at h
  · simp at h
  split at h
  · simp at h
  split at h <;> simp at h
end Go.Proofs.Ytakogncnkbgkfaa
