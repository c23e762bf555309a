/- rescriptref10.Bytes: contract. ; rescriptref10.Field: contract. -/
import Derived.Test.YtbjoohafgkodcaaEn5
import Derived.Test.YtbjoohafgkodcaaEn7
import Derived.Test.YtbjoohafgkodcaaVa9
namespace Go.Proofs.Ytbjoohafgkodcaa
open Go Go.RowKit Go.Shelf
attribute [local go_sem] Oper.semAt_some

theorem putF_nobad {num : Int} {W N : Nat} {b : List UInt8} {p : Int} (h : num < 1 ∨ 536870911 < num) : (putF (num, W, N, b, p)).1 = [] := by
  refine putF_bad ?_
  have e : (tmake num W).2 = 1 := by unfold tmake; rw [if_pos h]
  unfold putF
  rw [if_pos (by show (tmake num W).2 ≠ 0; rw [e]; decide)]
  show (tmake num W).2 ≠ 0
  rw [e]; decide
theorem listF_nobad {num : Int} (h : num < 1 ∨ 536870911 < num) : ∀ l, listF num l = []
  | [] => rfl
  | s :: l => by show _ ++ listF num l = []; rw [putF_nobad h, listF_nobad h l]; rfl
theorem fieldF_nobad {m : Msg} {num t sl : Int} (h : num < 1 ∨ 536870911 < num) : fieldF m num t sl = [] := by
  unfold fieldF
  split
  · rfl
  split
  · exact putF_nobad h
  split
  · exact putF_nobad h
  split
  · exact putF_nobad h
  · exact listF_nobad h _
theorem fieldF_def {m : Msg} {num t sl : Int} (h : defB m t sl = true) : fieldF m num t sl = [] := by unfold fieldF; rw [if_pos (.inr h)]
theorem tmake_good {num : Int} {W : Nat} (h : ¬ (num < 1 ∨ 536870911 < num)) (hw : wireB W = true) : (tmake num W).2 = 0 := by unfold tmake; rw [if_neg h, if_neg (by rw [hw]; decide)]
theorem putF_good {num : Int} {W N : Nat} {b : List UInt8} {p : Int} (h : ¬ (num < 1 ∨ 536870911 < num)) (hw : wireB W = true) (hb : b.length ≤ 8192) : vput (tmake num W).1 ++ valB (num, W, N, b, p) = (putF (num, W, N, b, p)).1 := by
  have e := tmake_good (num := num) h hw
  unfold putF
  rw [if_neg (by show ¬ (tmake num W).2 ≠ 0; rw [e]; decide), if_neg (by show ¬ (W = 2 ∧ 8192 < b.length); omega)]
/-- a field that has something -/
theorem def_has {m : Msg} {t sl : Int} (h : defB m t sl = false) : (numB t = true ∧ 0 ≤ sl ∧ sl < 6) ∨ (txtB t = true ∧ 0 ≤ sl ∧ sl < 2) ∨ t = 10 := by
  by_cases h1 : numB t = true ∧ 0 ≤ sl ∧ sl < 6
  · exact .inl h1
  by_cases h2 : txtB t = true ∧ 0 ≤ sl ∧ sl < 2
  · exact .inr (.inl h2)
  by_cases h3 : t = 10
  · exact .inr (.inr h3)
  · rw [def_other h1 h2 h3] at h; cases h
theorem rwireV_eq {t : Int} (h1 : 1 ≤ t) (h2 : t ≤ 10) : wireV t = (rwireV t, true) ∧ rwireV t = ((rwireV t).toNat : Int) ∧ wireB (rwireV t).toNat = true ∧ (rwireV t).toNat < 256 := by
  rcases (show t = 1 ∨ t = 2 ∨ t = 3 ∨ t = 4 ∨ t = 5 ∨ t = 6 ∨ t = 7 ∨ t = 8 ∨ t = 9 ∨ t = 10 by omega) with rfl | rfl | rfl | rfl | rfl | rfl | rfl | rfl | rfl | rfl <;> decide
theorem sB_nil : sB ⟨#[]⟩ = [] := rfl
theorem sB_len (s : ByteArray) : (sB s).length = s.size := by show s.data.toList.length = s.data.size; rw [Array.length_toList]
/-- what rescriptref10.Field has of a field that has something -/
theorem fieldF_has {m : Msg} {num t sl : Int} (hd : defB m t sl = false) (h10 : t ≠ 10) :
    fieldF m num t sl = (putF (num, (rwireV t).toNat, if t = 3 then zigN (wrap64 (plN m t sl)) else plN m t sl, sB (plS m t sl), 0)).1 := by
  rcases def_has hd with ⟨h1, h2, h3⟩ | ⟨h1, h2, h3⟩ | h1
  · have hf := num_facts h1
    obtain ⟨e1, e2, -⟩ := pl_num (m := m) h1 h2 h3
    obtain ⟨w1, w2, -⟩ := rwireV_eq (t := t) (by omega) (by omega)
    unfold fieldF
    rw [if_neg (by rw [w1, hd]; simp), e1, e2, sB_nil]
    by_cases h33 : t = 3
    · subst h33; rw [if_pos rfl, if_pos rfl, intV_of h2 h3]; rfl
    · rw [if_neg h33, if_neg h33, if_pos h1, w1]
  · have hf := txt_facts h1
    obtain ⟨e1, e2, -⟩ := pl_txt (m := m) h1 h2 h3
    obtain ⟨w1, w2, -⟩ := rwireV_eq (t := t) (by omega) (by omega)
    unfold fieldF
    rw [if_neg (by rw [w1, hd]; simp), e1, e2, if_neg (by omega), if_neg (by unfold numB; simp; omega), if_pos h1, if_neg (by omega)]
    have : rwireV t = 2 := by unfold rwireV; rw [if_neg (by omega), if_neg (by omega), if_neg (by omega)]
    rw [this]; rfl
  · exact absurd h1 h10
theorem fieldF_list {m : Msg} {num sl : Int} (hd : defB m 10 sl = false) : fieldF m num 10 sl = listF num m.l := by
  unfold fieldF
  rw [if_neg (by rw [hd]; decide), if_neg (by omega), if_neg (by decide), if_neg (by decide)]
theorem plN_lt {m : Msg} {t sl : Int} (hn : ∀ i, i < 6 → m.n i < 18446744073709551616) : plN m t sl < 18446744073709551616 := by
  unfold plN; split
  · exact hn _ (by omega)
  · omega
theorem plS_small {m : Msg} {t sl : Int} (hs : smallB m = true) : (plS m t sl).size ≤ 8000 := by
  unfold smallB at hs
  simp at hs
  obtain ⟨⟨⟨h0, h1⟩, h2⟩, h3⟩ := hs
  unfold plS; split
  · rename_i h
    rcases (show sl = 0 ∨ sl = 1 by omega) with rfl | rfl
    · exact h0
    · exact h1
  · exact Nat.zero_le _
theorem zigN_wrap_lt (N : Nat) : zigN (wrap64 (N : Int)) < 18446744073709551616 := zigN_lt (by unfold wrap64; omega) (by unfold wrap64; omega)
end Go.Proofs.Ytbjoohafgkodcaa
namespace Go.Proofs.Ytbjoohafgkodcaa
open Go Go.RowKit Go.Shelf
attribute [local go_sem] Oper.semAt_some

end Go.Proofs.Ytbjoohafgkodcaa
