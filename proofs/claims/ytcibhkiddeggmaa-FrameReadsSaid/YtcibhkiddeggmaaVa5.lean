/- rescriptref09.one: contract. -/
import Derived.Test.YtcibhkiddeggmaaVa4
namespace Go.Proofs.Ytcibhkiddeggmaa
open Go Go.RowKit Go.Shelf

theorem plS_le {m : Msg} (hm : okM m) (t sl : Int) : (plS m t sl).size ≤ 9223372036854775807 := by
  unfold plS; split
  · exact hm.1 _ (by omega)
  · exact Nat.zero_le _
theorem plL_tx {W : World} {m : Msg} {lv : Value} (h : Tx W lv m.l) (t : Int) : Tx W (plLv t lv) (plL m t) := by
  unfold plLv plL; split
  · exact h
  · exact Sl.nil W 1
theorem plL_mem {m : Msg} (hm : okM m) (t : Int) : ∀ s ∈ plL m t, s.size ≤ 9223372036854775807 := by
  unfold plL; split
  · exact hm.2
  · simp
theorem err_1 {m : Msg} {t sl : Int} (h : ((t = 1 ∨ t = 5) ∧ 4294967295 < plN m t sl) ∨ (t = 4 ∧ 1 < plN m t sl)) : errM m t sl = 1 := by unfold errM; rw [if_pos h]
theorem err_2 {m : Msg} {t sl : Int} (h : ¬ (((t = 1 ∨ t = 5) ∧ 4294967295 < plN m t sl) ∨ (t = 4 ∧ 1 < plN m t sl))) (ht : 7 ≤ t ∧ t ≤ 9) : errM m t sl = chkV (plS m t sl) (mostV t) := by
  unfold errM; rw [if_neg h, if_pos (by unfold txtB; simp; omega)]
theorem err_3 {m : Msg} {t sl : Int} (h : ¬ (((t = 1 ∨ t = 5) ∧ 4294967295 < plN m t sl) ∨ (t = 4 ∧ 1 < plN m t sl))) (ht : ¬ (7 ≤ t ∧ t ≤ 9)) : errM m t sl = if 64 < (plL m t).length then 2 else firstE (mostV t) (plL m t) := by
  unfold errM; rw [if_neg h, if_neg (by unfold txtB; simp; omega)]
end Go.Proofs.Ytcibhkiddeggmaa
