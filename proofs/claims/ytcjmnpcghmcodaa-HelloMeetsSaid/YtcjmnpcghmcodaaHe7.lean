/- What is answered may be: plain words. No walk. -/
import Derived.Test.YtcjmnpcghmcodaaHe6
namespace Go.Proofs.Ytcjmnpcghmcodaa
open Go Go.RowKit Go.Shelf

/-- an answer -/
def ackM (v ss : Nat) (s : ByteArray) : Msg := ⟨2, fun i => if i = 0 then v else if i = 1 then ss else 0, fun i => if i = 0 then s else ⟨#[]⟩, []⟩
theorem ack_A (v ss : Nat) (s : ByteArray) : msgA (ackM v ss s) (.slice none 0 0) = #[.int .u8 2, .int .u64 v, .int .u64 ss, .int .u64 0, .int .u64 0, .int .u64 0, .int .u64 0, .string s, .string ⟨#[]⟩, .slice none 0 0] := rfl
theorem ack_rows1 : ofKind 2 (rowsIn 1) = [(2, 1, 1, 0, 1), (2, 2, 6, 1, 1)] := by decide +kernel
theorem ack_rows2 : ofKind 2 (rowsIn 2) = [(2, 1, 1, 0, 1), (2, 2, 6, 1, 1), (2, 3, 7, 0, 2)] := by decide +kernel
theorem ack_rows3 : ofKind 2 (rowsIn 3) = [(2, 1, 1, 0, 1), (2, 2, 6, 1, 1), (2, 3, 7, 0, 2)] := by decide +kernel
theorem ack_e1 (v ss : Nat) (s : ByteArray) (hv : v ≤ 3) : errR (ackM v ss s) (2, 1, 1, 0, 1) = 0 := by
  show errM (ackM v ss s) 1 0 = 0
  rw [err_num rfl (by omega) (by omega), if_neg]
  show ¬ (_ ∧ 4294967295 < v ∨ _)
  omega
theorem ack_e2 (v ss : Nat) (s : ByteArray) : errR (ackM v ss s) (2, 2, 6, 1, 1) = 0 := by
  show errM (ackM v ss s) 6 1 = 0
  rw [err_num rfl (by omega) (by omega), if_neg (by omega)]
theorem ack_e3 (v ss : Nat) (s : ByteArray) (h : chkV s 64 = 0) : errR (ackM v ss s) (2, 3, 7, 0, 2) = 0 := by
  show errM (ackM v ss s) 7 0 = 0
  rw [err_txt rfl (by omega) (by omega)]
  exact h
theorem ack_same1 (v ss : Nat) : sameB (cleanM (ackM v ss ⟨#[]⟩) [(2, 1, 1, 0, 1), (2, 2, 6, 1, 1)]) (ackM v ss ⟨#[]⟩) = true := by
  simp [sameB, nL, sL, cleanM, ackM, hasN, hasS, hasL, rTyp, rSlot]
theorem ack_same2 (v ss : Nat) (s : ByteArray) : sameB (cleanM (ackM v ss s) [(2, 1, 1, 0, 1), (2, 2, 6, 1, 1), (2, 3, 7, 0, 2)]) (ackM v ss s) = true := by
  simp [sameB, nL, sL, cleanM, ackM, hasN, hasS, hasL, rTyp, rSlot]
theorem ack_chk1 (v ss : Nat) (hv : v ≤ 3) : chkM (ackM v ss ⟨#[]⟩) (ofKind 2 (rowsIn 1)) = (0, 0) := by
  rw [ack_rows1, chk_end (by simp) (by simp [ack_e1 v ss _ hv, ack_e2]), ack_same1, if_pos rfl]
theorem ack_chk2 (v ss : Nat) (s : ByteArray) (hv : v ≤ 3) (h : chkV s 64 = 0) : chkM (ackM v ss s) [(2, 1, 1, 0, 1), (2, 2, 6, 1, 1), (2, 3, 7, 0, 2)] = (0, 0) := by
  rw [chk_end (by simp) (by simp [ack_e1 v ss s hv, ack_e2, ack_e3 v ss s h]), ack_same2, if_pos rfl]
/-- what is answered may be in the version that is answered -/
theorem ack_chk (v ss : Nat) (s : ByteArray) (h0 : 1 ≤ v) (hv : v ≤ 3) (hs : s = ⟨#[]⟩ ∨ (1 < v ∧ chkV s 64 = 0)) : chkM (ackM v ss s) (ofKind 2 (rowsIn (v : Int))) = (0, 0) := by
  have he : chkV ⟨#[]⟩ 64 = 0 := by decide +kernel
  rcases (show v = 1 ∨ v = 2 ∨ v = 3 by omega) with rfl | rfl | rfl
  · rcases hs with rfl | ⟨h, _⟩
    · exact ack_chk1 1 ss (by omega)
    · omega
  · show chkM _ (ofKind 2 (rowsIn 2)) = _
    rw [ack_rows2]
    exact ack_chk2 _ _ _ (by omega) (by rcases hs with rfl | ⟨_, h⟩ <;> assumption)
  · show chkM _ (ofKind 2 (rowsIn 3)) = _
    rw [ack_rows3]
    exact ack_chk2 _ _ _ (by omega) (by rcases hs with rfl | ⟨_, h⟩ <;> assumption)
theorem ownN_le (s : ByteArray) : (ownN s).size ≤ 64 := by
  unfold ownN; split
  · assumption
  · simp; omega
/-- the message that is answered -/
theorem ans_ack {m : Msg} (ss : Nat) (nm : ByteArray) (h : ansF m = 0) : ∃ s : ByteArray, ansM m ss nm = ackM (chV (m.n 0) (m.n 1)).1 ss s ∧ ansV m = (chV (m.n 0) (m.n 1)).1 ∧ s.size ≤ 64 ∧ (s = ⟨#[]⟩ ∨ (1 < (chV (m.n 0) (m.n 1)).1 ∧ chkV s 64 = 0)) := by
  unfold ansM ansV
  rw [if_pos h, if_pos h]
  by_cases hA : 1 < (chV (m.n 0) (m.n 1)).1 ∧ firstV (ownN nm) < 0
  · refine ⟨ownN nm, ?_, rfl, ownN_le _, .inr ⟨hA.1, chk_ok _ _ (by have := ownN_le nm; omega) (by omega)⟩⟩
    unfold ackM; simp [hA]
  · refine ⟨⟨#[]⟩, ?_, rfl, by decide, .inl rfl⟩
    unfold ackM; simp only [Msg.mk.injEq, true_and, and_true]
    funext i
    by_cases hi : i = 0
    · simp [hi, hA]
    · simp [hi]
/-- an ask is answered, or no version is known, or the ask may not be -/
theorem ask_bad {lo hi : Nat} {nm : ByteArray} (h : ansF (askM lo hi nm) ≠ 0) : (chV lo hi).2 = false ∨ chkM (askM lo hi nm) (ofKind 1 (rowsIn 1)) ≠ (0, 0) := by
  by_cases hx : (chkM (askM lo hi nm) (ofKind 1 (rowsIn 1))).1 = 0
  · left
    rw [ansF_3 rfl hx] at h
    by_cases hn : (askM lo hi nm).n 1 < (askM lo hi nm).n 0
    · have hn' : hi < lo := hn
      rw [chV_no (by omega)]
    · rw [if_neg hn] at h
      cases hc : (chV lo hi).2 with
      | false => rfl
      | true =>
        rw [if_pos (show (chV ((askM lo hi nm).n 0) ((askM lo hi nm).n 1)).2 = true from hc)] at h
        exact absurd rfl h
  · right; intro e; rw [e] at hx; exact hx rfl
theorem ask_good {lo hi : Nat} {nm : ByteArray} (h : ansF (askM lo hi nm) = 0) : ¬ min hi 3 < max lo 1 ∧ chV lo hi = (min hi 3, true) := by
  have hx : (chkM (askM lo hi nm) (ofKind 1 (rowsIn 1))).1 = 0 := by
    by_cases hx : (chkM (askM lo hi nm) (ofKind 1 (rowsIn 1))).1 = 0
    · exact hx
    · rw [ansF_2 rfl hx] at h; exact h
  rw [ansF_3 rfl hx] at h
  by_cases hn : (askM lo hi nm).n 1 < (askM lo hi nm).n 0
  · rw [if_pos hn] at h; omega
  · rw [if_neg hn] at h
    by_cases hc : min hi 3 < max lo 1
    · rw [show (chV ((askM lo hi nm).n 0) ((askM lo hi nm).n 1)) = (0, false) from chV_no hc] at h
      simp at h
    · exact ⟨hc, chV_yes hc⟩
/-- it is accepted -/
theorem acc_ack {lo hi : Nat} {nm : ByteArray} (ss : Nat) (s : ByteArray) (h : ansF (askM lo hi nm) = 0) : accV (askM lo hi nm) (ackM (chV lo hi).1 ss s) = ((chV lo hi).1, 0) := by
  obtain ⟨h1, h2⟩ := ask_good h
  rw [h2]
  unfold accV
  rw [if_neg (by simp [askM, ackM]), if_neg]
  · rfl
  · show ¬ (min hi 3 < max lo 1 ∨ min hi 3 < min hi 3)
    omega
/-- of any answer -/
theorem acc_kind {lo hi : Nat} {nm : ByteArray} {b : Msg} (h : b.k ≠ 2) : accV (askM lo hi nm) b = (0, 7) := by
  unfold accV; rw [if_pos (.inr h)]
theorem acc_not {lo hi : Nat} {nm : ByteArray} {b : Msg} (h : b.k = 2) (hn : b.n 0 < lo ∨ hi < b.n 0 ∨ b.n 0 < 1 ∨ 3 < b.n 0) : accV (askM lo hi nm) b = (0, 15) := by
  unfold accV
  rw [if_neg (by simp [askM, h]), if_pos]
  show b.n 0 < max lo 1 ∨ min hi 3 < b.n 0
  omega
theorem acc_yes {lo hi : Nat} {nm : ByteArray} {b : Msg} (h : b.k = 2) (hn : ¬ (b.n 0 < lo ∨ hi < b.n 0 ∨ b.n 0 < 1 ∨ 3 < b.n 0)) : accV (askM lo hi nm) b = (b.n 0, 0) := by
  unfold accV
  rw [if_neg (by simp [askM, h]), if_neg]
  show ¬ (b.n 0 < max lo 1 ∨ min hi 3 < b.n 0)
  omega
end Go.Proofs.Ytcjmnpcghmcodaa
