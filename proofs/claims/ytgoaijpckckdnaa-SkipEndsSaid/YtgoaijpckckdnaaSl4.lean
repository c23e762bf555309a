/- SkipEnds: the walk. -/
import Derived.Test.YtgoaijpckckdnaaSl1
import Derived.Test.YtgoaijpckckdnaaSkC
namespace Go.Proofs.Ytgoaijpckckdnaa
open Go Go.RowKit Go.Shelf
attribute [local go_sem] Oper.semAt_some

set_option maxRecDepth 100000 in
set_option maxHeartbeats 8000000 in
theorem skends_walk (l : List UInt8) (v : Value) (at_ : Int) (h1 : -9223372036854775808 ≤ at_) (h2 : at_ ≤ 9223372036854775807) (w : World) (hb : Bs w v l) : Calls Try.prog 4 #[v, .int .i64 at_] w fun e w' => e = .returned (.bool true) ∧ Grew w w' := by
  obtain ⟨a, c, rfl⟩ := bs_len hb
  have HB := Lib.hid hb
  clear hb
  go_enter Try.func4, Try.ntmps4
  go_wp2_with fail
  refine (live06_any w).mono ?_
  rintro e w1 ⟨rfl, g1⟩
  by_cases hl : 1000 < l.length
  · have hd : decide ((l.length : Int) > 1000) = true := by simp; omega
    clear hl
    go_wp2
    go_ret
    exact ⟨rfl, g1⟩
  have hd : decide ((l.length : Int) > 1000) = false := by simp; omega
  have KEv := Lib.hid (fun (x : Int) (hx1 : -9223372036854775808 ≤ x) (hx2 : x ≤ 9223372036854775807) W hW => send_any l _ x hx1 hx2 W (HB.out.grew hW) (by omega))
  have ke := send_any l _ at_ h1 h2 _ (HB.out.grew g1) (by omega)
  obtain ⟨E, hE⟩ : ∃ E, E = endR l at_ := ⟨_, rfl⟩
  rw [← hE] at ke
  have KE := Lib.hid ke
  have HE := Lib.hid hE
  clear ke hE
  go_wp2_with fail
  refine KE.out.mono ?_
  rintro e w2 ⟨rfl, g2⟩
  have g3 := grew_alloc w2 (.cells #[.int .i64 (E.2.1 : Nat), .int .i64 (E.2.2 : Nat)] 27)
  have f2 := Blk.new w2 27 #[.int .i64 (E.2.1 : Nat), .int .i64 (E.2.2 : Nat)]
  by_cases h0 : at_ < 0 ∨ (l.length : Int) ≤ at_
  · obtain ⟨E1, E2, E3⟩ := E
    have hEE := HE.out
    unfold endR at hEE
    rw [if_pos h0] at hEE
    simp only [Prod.mk.injEq] at hEE
    obtain ⟨rfl, rfl, rfl⟩ := hEE
    by_cases hn : at_ < 0
    · clear h0
      go_wp2
      go_ret
      exact ⟨rfl, (g1.trans g2).trans g3⟩
    · have hge : (l.length : Int) ≤ at_ := by omega
      clear h0
      go_wp2
      go_ret
      exact ⟨rfl, (g1.trans g2).trans g3⟩
  obtain ⟨k, rfl⟩ := Int.eq_ofNat_of_zero_le (show 0 ≤ at_ by omega)
  have hk : k < l.length := by omega
  have hEE := HE.out
  unfold endR at hEE
  rw [if_neg h0, Int.toNat_natCast] at hEE
  obtain ⟨W3, hW3⟩ : ∃ W3, W3 = (w2.alloc (.cells #[.int .i64 (E.2.1 : Nat), .int .i64 (E.2.2 : Nat)] 27)).alloc (.cells #[.slice a l.length c, .int .i64 k] 36) := ⟨_, rfl⟩
  have gA := grew_alloc (w2.alloc (.cells #[.int .i64 (E.2.1 : Nat), .int .i64 (E.2.2 : Nat)] 27)) (.cells #[.slice a l.length c, .int .i64 k] 36)
  rw [← hW3] at gA
  have f3 := f2.grew gA
  have hI : InR (· = .slice a l.length c) W3 (w2.heap.size + 1) l k := ⟨_, by rw [hW3]; exact Blk.at (by simp), HB.out.grew (((g1.trans g2).trans g3).trans gA), by omega, rfl⟩
  have G3 : Grew w W3 := ((g1.trans g2).trans g3).trans gA
  have hdn : ¬ ((k : Int) < 0) := by omega
  have hd2 : ¬ ((l.length : Int) ≤ (k : Int)) := by omega
  have HI := Lib.hid hI
  obtain ⟨X, hX⟩ : ∃ X, X = oneR l k := ⟨_, rfl⟩
  rw [← hX] at hEE
  have HX := Lib.hid hX
  have HEE := Lib.hid hEE
  have HK := Lib.hid hk
  have hz3 : W3.heap.size = w2.heap.size + 1 + 1 := by rw [hW3]; simp
  have HZ3 := Lib.hid hz3
  have HKR := Lib.hid (rone_any l _ k (by omega) _ hI)
  clear hEE hX h1 h2 h0 hI f2 g3 gA hz3
  go_wp2_with fail
  rw [← hW3]
  refine HKR.out.mono ?_
  rw [← HX.out]
  clear hW3
  rintro e w4 ⟨v4, rfl, ho4, hI4, hF4⟩
  obtain ⟨a4, n4, c4, rfl, hn4⟩ := bs_shape (Sl.of_own ho4)
  have f4 := f3.fr hF4 (by omega)
  have G4 : Grew w w4 := hF4.grew G3 (fun i e => by have := G3.size; have := f3.lt; have := g1.size; have := g2.size; omega)
  obtain ⟨v9, hp4, -, -, -⟩ := hI4
  clear ho4 HKR f3
  go_upto_region 10 with (fail)
  obtain ⟨W5, hW5⟩ : ∃ W5, W5 = ((w4.alloc (.cells #[.int .i64 X.1.1, .int .u8 (X.1.2.1 : Nat), .int .u64 (X.1.2.2.1 : Nat), .slice a4 n4 c4, .int .i64 X.1.2.2.2.2] 39)).alloc (.cells #[.int .i64 (X.2.1 : Nat), .int .i64 (X.2.2.1 : Nat)] 27)) := ⟨_, rfl⟩
  have g5 : Grew w4 W5 := by rw [hW5]; exact ((Below.refl _ _).alloc (Nat.le_refl _) _).alloc (by simp) _
  have b5 : Blk W5 (w4.heap.size + 1) 27 #[.int .i64 (X.2.1 : Nat), .int .i64 (X.2.2.1 : Nat)] := by rw [hW5]; exact Blk.at (by simp)
  rw [← hW5]
  have f5 := f4.grew g5
  have p5 := hp4.grew g5
  obtain ⟨e0, e1, -⟩ := cells_of f5
  obtain ⟨e2, e3, -⟩ := cells_of b5
  obtain ⟨e4, e5, -⟩ := cells_of p5
  have G5 := G4.trans g5
  clear hW5 f4 hp4 f5 p5
  by_cases he : X.2.1 ≠ 0
  · have hne : ((X.2.1 : Int) != 0) = true := by simp; omega
    have hq := HEE.out
    rw [if_pos he] at hq
    have q1 : E.1 = 0 := by rw [hq]
    have q2 : E.2.1 = X.2.1 := by rw [hq]
    have q3 : E.2.2 = X.2.2.1 := by rw [hq]
    rw [q2] at e0
    rw [q3] at e1
    rw [q1]
    clear he hq q1 q2 q3
    go_wp2
    go_ret
    exact ⟨rfl, G5⟩
  have hne : ((X.2.1 : Int) != 0) = false := by simp; omega
  have hq := HEE.out
  rw [if_neg he] at hq
  have q1 : E.1 = X.2.2.2 := by rw [hq]
  have q2 : E.2.1 = 0 := by rw [hq]
  have q3 : E.2.2 = 0 := by rw [hq]
  rw [q2] at e0
  rw [q3] at e1
  rw [q1]
  have HLN := Lib.hid (fieldsR_len l)
  have HNX := Lib.hid (endR_next l)
  have kf := fun W hW => sfields_any l _ W (HB.out.grew hW) (by omega)
  have HN0 := Lib.hid (fieldsR_nil l)
  obtain ⟨R, hR⟩ : ∃ R, R = fieldsR l := ⟨_, rfl⟩
  rw [← hR] at kf HLN HNX HN0
  have KF := Lib.hid kf
  clear he hq q1 q2 q3 kf hR
  go_wp2_with fail
  refine (KF.out _ G5).mono ?_
  rintro e w6 ⟨v6, rfl, ⟨ps, hps, hV⟩, g6⟩
  obtain ⟨a6, c6, e6, -⟩ := hV.flr.1.open
  subst e6
  have hpl : ps.length = R.1.length := by rw [← hps, List.length_map]
  have HPL := Lib.hid hpl
  have HPS := Lib.hid hps
  clear hpl hps
  go_upto_region 15 with (fail)
  obtain ⟨W7, hW7⟩ : ∃ W7, W7 = w6.alloc (.cells #[.int .i64 (R.2.1 : Nat), .int .i64 (R.2.2 : Nat)] 27) := ⟨_, rfl⟩
  have g7 : Grew w6 W7 := by rw [hW7]; exact grew_alloc _ _
  have f7 : Blk W7 w6.heap.size 27 #[.int .i64 (R.2.1 : Nat), .int .i64 (R.2.2 : Nat)] := by rw [hW7]; exact Blk.new _ _ _
  rw [← hW7]
  have HFL := Lib.hid (hV.flr.grew g7)
  have G7 := (G5.trans g6).trans g7
  have hpl2 : ps.length ≤ 1000 := by have := HPL.out; have := HLN.out; omega
  clear hW7 hV e0 e1 e2 e3 e4 e5 b5
  go_wp2
  go_loopw [12] (fun i wr => (∃ k : Nat, k ≤ ps.length ∧ i = .int .i64 k) ∧ Grew W7 wr) (fun i _ => ps.length + 1 - (intOf i).toNat)
  case atStart => exact ⟨⟨0, Nat.zero_le _, rfl⟩, Below.refl _ _⟩
  case round =>
    obtain ⟨⟨j, hj, rfl⟩, hG⟩ := hrel
    by_cases hlt : j + 1 < ps.length
    · have hfp := HFL.out.grew hG
      obtain ⟨_, _, ex, -, -, -, d1⟩ := hfp.1.open
      cases ex
      obtain ⟨b1, o1, rfl, -⟩ := d1 (by omega)
      obtain ⟨-, -, -, -, x4, -⟩ := fl_cells hfp j (by omega)
      obtain ⟨-, -, -, -, y4, -⟩ := fl_cells hfp (j + 1) hlt
      have hr1 : R.1[j]? = some ps[j].1 := by rw [← HPS.out, List.getElem?_map, List.getElem?_eq_getElem (by omega)]; rfl
      have hr2 : R.1[j + 1]? = some ps[j + 1].1 := by rw [← HPS.out, List.getElem?_map, List.getElem?_eq_getElem hlt]; rfl
      obtain ⟨n1, n2, n3, n4', n5⟩ := HNX.out j _ _ hr1 hr2
      obtain ⟨p, hp⟩ : ∃ p, p = fAt ps[j].1 := ⟨_, rfl⟩
      obtain ⟨q, hq⟩ : ∃ q, q = fAt ps[j + 1].1 := ⟨_, rfl⟩
      rw [← hp] at n1 n2 n3 n4' n5
      rw [← hq] at n1
      replace x4 : wr.cell? ⟨b1, o1 + j * 5 + 4, none⟩ = some (.int .i64 p) := by rw [hp]; exact x4
      replace y4 : wr.cell? ⟨b1, o1 + (j + 1) * 5 + 4, none⟩ = some (.int .i64 q) := by rw [hq]; exact y4
      have ke := KEv.out p (by omega) (by omega) wr (G7.trans hG)
      rw [n2, n3, n1] at ke
      have KE2 := Lib.hid ke
      have z1 : (j : Int) + 1 < (ps.length : Int) := by omega
      have z2 : (j : Int) < (ps.length : Int) := by omega
      have z0 : (0 : Int) ≤ (j : Int) := by omega
      have hf7 := f7.grew hG
      clear hp hq n1 n2 n3 n4' n5 hr1 hr2 ke d1 hfp
      have hR0 : R.2.1 = 0 := by
        by_cases h : R.2.1 = 0
        · exact h
        · have h9 : ps.length = 0 := by rw [HPL.out, HN0.out h]; rfl
          omega
      rw [hR0] at hf7
      clear hR0
      go_wp2_with fail
      refine KE2.out.mono ?_
      rintro e w8 ⟨rfl, g8⟩
      go_upto_region 19 with (fail)
      obtain ⟨W9, hW9⟩ : ∃ W9, W9 = w8.alloc (.cells #[.int .i64 0, .int .i64 0] 27) := ⟨_, rfl⟩
      have g9 : Grew w8 W9 := by rw [hW9]; exact grew_alloc _ _
      have f9 : Blk W9 w8.heap.size 27 #[.int .i64 0, .int .i64 0] := by rw [hW9]; exact Blk.new _ _ _
      rw [← hW9]
      have h9 := (hf7.grew g8).grew g9
      have y9 := (below_ext (g8.trans g9)) _ _ y4
      obtain ⟨e0, e1, -⟩ := cells_of h9
      obtain ⟨e2, e3, -⟩ := cells_of f9
      have G9 := (hG.trans g8).trans g9
      clear hW9 hf7 h9 f9 x4 y4
      go_wp2
      go_roundw
      case rel => exact ⟨⟨j + 1, by omega, by go_num⟩, G9⟩
      case measure => simp [intOf]; omega
    · have z1 : ¬ ((j : Int) + 1 < (ps.length : Int)) := by omega
      go_wp2
      go_ret
      exact ⟨rfl, G7.trans hG⟩
end Go.Proofs.Ytgoaijpckckdnaa
