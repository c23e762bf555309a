/- CrcParts and CrcSeals, walked. -/
import Derived.Test.YtldmlpbbakmooaaCrcL
namespace Go.Proofs.Ytldmlpbbakmooaa
open Go Go.RowKit Go.Shelf

theorem csum_more (a b : List UInt8) : cfrom (csum a ^^^ 4294967295) b ^^^ 4294967295 = csum (a ++ b) := by
  unfold csum
  rw [Nat.xor_assoc, Nat.xor_self, Nat.xor_zero, ← cfrom_append]

set_option maxHeartbeats 1000000 in
theorem crcParts_any (a b : List UInt8) (va vb : Value) (w : World) (ha : Bs w va a) (hb : Bs w vb b) :
    Calls Try.prog 6 #[va, vb] w fun e w' => e = .returned (.bool true) ∧ Grew w w' := by
  obtain ⟨aa, ca, rfl⟩ := bs_len ha
  obtain ⟨ab, cb, rfl⟩ := bs_len hb
  by_cases h1 : 2000 < a.length
  · go_enter Try.func6, Try.ntmps6
    go_wp2_with fail
    refine (live7_any _).mono ?_
    rintro e w1 ⟨rfl, hg1⟩
    go_wp2_with fail
    go_ret
    exact ⟨rfl, hg1⟩
  · by_cases h2 : 2000 < b.length
    · go_enter Try.func6, Try.ntmps6
      go_wp2_with fail
      refine (live7_any _).mono ?_
      rintro e w1 ⟨rfl, hg1⟩
      go_wp2_with fail
      go_ret
      exact ⟨rfl, hg1⟩
    · go_enter Try.func6, Try.ntmps6
      go_wp2_with fail
      refine (live7_any _).mono ?_
      rintro e w1 ⟨rfl, hg1⟩
      go_wp2_with fail
      refine (of_any a _ _ (ha.grew hg1)).mono ?_
      rintro e w2 ⟨rfl, hg2⟩
      have hG2 : Grew w w2 := Grew.trans hg1 hg2
      go_wp2_with fail
      refine (more_any (csum a) b _ _ (csum_lt a) (hb.grew hG2)).mono ?_
      rintro e w3 ⟨rfl, hg3⟩
      rw [csum_more]
      have hG3 : Grew w w3 := Grew.trans hG2 hg3
      have hga : Grew w3 (w3.alloc (.cells #[] 5)) := (Below.refl _ _).alloc (Nat.le_refl _) _
      go_wp2_with (first | (at_builtin; refine wpList_push rfl (.tmp 19) (.tmp 20) rfl w3.heap.size _ [] rfl (World.ownsRow_lit _ #[] 0 (Nat.le_refl _) (Nat.zero_le _) rfl) _ rfl a ((ha.grew hG3).grew hga) (by simp; omega) (by simp) ?_; intro v4 w4 hown4 hB4 _) | (at_builtin; refine wpList_push rfl (.tmp 21) (.tmp 22) rfl w3.heap.size _ a rfl hown4 _ rfl b (hb.grew (Below.trans hG3 ((Below.trans hga hB4).mono hG3.size))) (by omega) (by have := hB4.size; simp at this; omega) ?_; intro v5 w5 hown5 hB5 _))
      have hG5 : Grew w w5 := Below.trans hG3 ((Below.trans (Below.trans hga hB4) hB5).mono hG3.size)
      refine (of_any (a ++ b) _ _ (Sl.of_own hown5)).mono ?_
      rintro e w6 ⟨rfl, hg6⟩
      have hG6 : Grew w w6 := Grew.trans hG5 hg6
      go_wp2_with fail
      refine (of_any a _ _ (ha.grew hG6)).mono ?_
      rintro e w7 ⟨rfl, hg7⟩
      have hG7 : Grew w w7 := Grew.trans hG6 hg7
      go_wp2_with fail
      refine (more_any (csum a) [] _ _ (csum_lt a) (Sl.nil _ _)).mono ?_
      rintro e w8 ⟨rfl, hg8⟩
      rw [csum_more, List.append_nil]
      have hG8 : Grew w w8 := Grew.trans hG7 hg8
      go_wp2_with fail
      refine (of_any a _ _ (ha.grew hG8)).mono ?_
      rintro e w9 ⟨rfl, hg9⟩
      go_wp2
      go_ret
      exact ⟨rfl, Grew.trans hG8 hg9⟩

theorem cseal_length (l : List UInt8) : (cseal l).length = l.length + 4 := by simp [cseal, le32]
theorem copen_cseal (l : List UInt8) : copen (cseal l) = (l, 0) := by
  have h1 : (cseal l).take ((cseal l).length - 4) = l := by rw [cseal_length]; simp [cseal]
  unfold copen
  rw [if_neg (by rw [cseal_length]; omega), h1, if_pos rfl]

set_option maxHeartbeats 2000000 in
theorem crcSeals_any (l : List UInt8) (v : Value) (w : World) (hb : Bs w v l) :
    Calls Try.prog 4 #[v] w fun e w' => e = .returned (.bool true) ∧ Grew w w' := by
  have hb' := hb
  obtain ⟨a, c, rfl, hc1, hc2, -, -⟩ := hb.open
  clear hb
  unfold maxLen at hc2
  by_cases h1 : 2000 < l.length
  · go_enter Try.func4, Try.ntmps4
    go_wp2_with fail
    refine (live7_any _).mono ?_
    rintro e w1 ⟨rfl, hg1⟩
    go_wp2_with fail
    go_ret
    exact ⟨rfl, hg1⟩
  · have hL := cseal_length l
    have HL := Lib.hid hL
    clear hL
    have e1 : (cseal l == cseal l) = true := by simp
    have e2 : (l == l) = true := by simp
    go_enter Try.func4, Try.ntmps4
    go_wp2_with fail
    refine (live7_any _).mono ?_
    rintro e w1 ⟨rfl, hg1⟩
    go_wp2_with fail
    refine (seal_any l _ _ (hb'.grew hg1) (by omega)).mono ?_
    rintro e w2 ⟨v2, rfl, ho2, hg2⟩
    have hb2 := Sl.of_own ho2
    have hG2 : Grew w w2 := Grew.trans hg1 hg2
    clear ho2
    go_wp2_with fail
    refine (open_any (cseal l) _ _ hb2 (by rw [HL.out]; omega)).mono ?_
    rintro e w3 ⟨v3, rfl, ho3, hg3⟩
    rw [copen_cseal] at ho3 ⊢
    have hG3 : Grew w w3 := Grew.trans hG2 hg3
    have hb3 := Sl.of_own ho3
    clear ho3
    go_wp2_with fail
    refine (rseal_any l _ _ (hb'.grew hG3) (by omega)).mono ?_
    rintro e w4 ⟨v4, rfl, ho4, hg4⟩
    have hG4 : Grew w w4 := Grew.trans hG3 hg4
    have hb4 := Sl.of_own ho4
    clear ho4
    go_wp2_with fail
    refine (same_any (cseal l) (cseal l) _ _ _ ((hb2.grew hg3).grew hg4) hb4).mono ?_
    rintro e w5 ⟨rfl, hd5⟩
    have hG5 : Grew w w5 := Grew.trans hG4 hd5.grew
    rw [e1]
    go_wp2_with fail
    refine (same_any l l _ _ _ ((hb3.grew hg4).grew hd5.grew) (hb'.grew hG5)).mono ?_
    rintro e w6 ⟨rfl, hd6⟩
    have hG6 : Grew w w6 := Grew.trans hG5 hd6.grew
    rw [e2]
    clear hb2 hb3 hb4 hg2 hg3 hg4 hd5 hd6
    go_wp2_with fail
    refine (open_any l _ _ (hb'.grew hG6) (by omega)).mono ?_
    rintro e w7 ⟨v7, rfl, ho7, hg7⟩
    have hG7 : Grew w w7 := Grew.trans hG6 hg7
    by_cases hs : l.length < 4
    · have hf : copen l = ([], 4) := by unfold copen; rw [if_pos hs]
      rw [hf] at ho7 ⊢
      obtain ⟨a7, c7, rfl⟩ := bs_len (Sl.of_own ho7)
      clear hf ho7
      go_wp2_with fail
      go_ret
      exact ⟨rfl, hG7⟩
    · obtain ⟨d, hd⟩ : ∃ d, l.take (l.length - 4) = d := ⟨_, rfl⟩
      have hbd : Bs w (.slice a (l.length - 4) c) d := by rw [← hd]; exact bs_take hb' _ (by omega)
      have hdl : d.length = l.length - 4 := by rw [← hd]; simp
      have HD := Lib.hid hdl
      clear hdl
      have hn2 : ¬ ((l.length : Int) - 4 < 0) := by omega
      by_cases hq : cseal d = l
      · have hf : copen l = (d, 0) := by unfold copen; rw [if_neg hs, hd, if_pos hq]
        rw [hf] at ho7 ⊢
        have hq2 : (cseal d == l) = true := by simp [hq]
        have e3 : (d == d) = true := by simp
        have hb7 := Sl.of_own ho7
        clear hf hq ho7 hd
        go_wp2_with fail
        refine (rseal_any d _ _ (hbd.grew hG7) (by rw [HD.out]; omega)).mono ?_
        rintro e w8 ⟨v8, rfl, ho8, hg8⟩
        have hG8 : Grew w w8 := Grew.trans hG7 hg8
        go_wp2_with fail
        refine (same_any (cseal d) l _ _ _ (Sl.of_own ho8) (hb'.grew hG8)).mono ?_
        rintro e w9 ⟨rfl, hd9⟩
        have hG9 : Grew w w9 := Grew.trans hG8 hd9.grew
        rw [hq2]
        go_wp2_with fail
        refine (same_any d d _ _ _ ((hb7.grew hg8).grew hd9.grew) (hbd.grew hG9)).mono ?_
        rintro e w10 ⟨rfl, hd10⟩
        rw [e3]
        go_wp2
        go_ret
        exact ⟨rfl, Grew.trans hG9 hd10.grew⟩
      · have hf : copen l = ([], 12) := by unfold copen; rw [if_neg hs, hd, if_neg hq]
        rw [hf] at ho7 ⊢
        have hq2 : (cseal d == l) = false := by simp [hq]
        obtain ⟨a7, c7, rfl⟩ := bs_len (Sl.of_own ho7)
        clear hf hq ho7 hd
        go_wp2_with fail
        refine (rseal_any d _ _ (hbd.grew hG7) (by rw [HD.out]; omega)).mono ?_
        rintro e w8 ⟨v8, rfl, ho8, hg8⟩
        have hG8 : Grew w w8 := Grew.trans hG7 hg8
        go_wp2_with fail
        refine (same_any (cseal d) l _ _ _ (Sl.of_own ho8) (hb'.grew hG8)).mono ?_
        rintro e w9 ⟨rfl, hd9⟩
        rw [hq2]
        go_wp2
        go_ret
        exact ⟨rfl, Grew.trans hG8 hd9.grew⟩

end Go.Proofs.Ytldmlpbbakmooaa
