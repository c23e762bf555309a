/- SkipReads, SkipAgain: the walks. -/
import Derived.Test.YtgoaijpckckdnaaSl1
import Derived.Test.YtgoaijpckckdnaaSkB
namespace Go.Proofs.Ytgoaijpckckdnaa
open Go Go.RowKit Go.Shelf
attribute [local go_sem] Oper.semAt_some

set_option maxRecDepth 100000 in
set_option maxHeartbeats 4000000 in
theorem skreads_walk (l : List UInt8) (v : Value) (w : World) (hb : Bs w v l) : Calls Try.prog 3 #[v] w fun e w' => e = .returned (.bool true) ∧ Grew w w' := by
  obtain ⟨a, c, rfl⟩ := bs_len hb
  have HB := Lib.hid hb
  clear hb
  go_enter Try.func3, Try.ntmps3
  go_wp2_with fail
  refine (live06_any w).mono ?_
  rintro e w1 ⟨rfl, g1⟩
  by_cases hl : 1000 < l.length
  · have hd : decide ((l.length : Int) > 1000) = true := by simp; omega
    clear hl
    go_wp2
    go_ret
    exact ⟨rfl, g1⟩
  have hd : decide ((l.length : Int) > 1000) = false := by simp; omega
  have kf1 := sfields_any l _ _ (HB.out.grew g1) (by omega)
  have KR := Lib.hid (fun W hW => r06fields_any l _ W (HB.out.grew hW) (by omega))
  obtain ⟨R, hR⟩ : ∃ R, R = fieldsR l := ⟨_, rfl⟩
  rw [← hR] at kf1 KR
  have KF := Lib.hid kf1
  clear kf1 hl hR
  go_wp2_with fail
  refine KF.out.mono ?_
  rintro e w2 ⟨v2, rfl, ho2, g2⟩
  obtain ⟨a2, c2, rfl⟩ := ho2.frs.shape
  have f2 := Blk.new w2 27 #[.int .i64 (R.2.1 : Nat), .int .i64 (R.2.2 : Nat)]
  have h2 := grew_alloc w2 (.cells #[.int .i64 (R.2.1 : Nat), .int .i64 (R.2.2 : Nat)] 27)
  go_wp2_with fail
  refine (KR.out _ ((g1.trans g2).trans h2)).mono ?_
  rintro e w3 ⟨v3, rfl, ho3, g3⟩
  obtain ⟨a3, c3, rfl⟩ := ho3.frs.shape
  go_upto_region 7 with (fail)
  have h3 := grew_alloc w3 (.cells #[.int .i64 (R.2.1 : Nat), .int .i64 (R.2.2 : Nat)] 27)
  obtain ⟨W6, hW6⟩ : ∃ W6, W6 = w3.alloc (.cells #[.int .i64 (R.2.1 : Nat), .int .i64 (R.2.2 : Nat)] 27) := ⟨_, rfl⟩
  have f3 : Blk W6 w3.heap.size 27 #[.int .i64 (R.2.1 : Nat), .int .i64 (R.2.2 : Nat)] := by rw [hW6]; exact Blk.new _ _ _
  rw [← hW6] at h3 ⊢
  have f4 := (f2.grew g3).grew h3
  obtain ⟨e0, e1, -⟩ := cells_of f3
  obtain ⟨e2, e3, -⟩ := cells_of f4
  have KS := Lib.hid (same06_any R.1 R.1 _ _ W6 (((ho2.frs.grew h2).grew g3).grew h3) (ho3.frs.grew h3))
  have G6 : Grew w W6 := (((g1.trans g2).trans h2).trans g3).trans h3
  clear hW6 ho2 ho3 f2 f3 f4
  go_wp2_with fail
  refine KS.out.mono ?_
  rintro e w7 ⟨rfl, g7⟩
  go_wp2
  go_ret
  exact ⟨ret_bool (by simp), G6.trans g7⟩
set_option maxRecDepth 100000 in
set_option maxHeartbeats 8000000 in
theorem skagain_walk (l : List UInt8) (v : Value) (w : World) (hb : Bs w v l) : Calls Try.prog 6 #[v] w fun e w' => e = .returned (.bool true) ∧ Grew w w' := by
  obtain ⟨a, c, rfl⟩ := bs_len hb
  have HB := Lib.hid hb
  clear hb
  go_enter Try.func6, Try.ntmps6
  go_wp2_with fail
  refine (live06_any w).mono ?_
  rintro e w1 ⟨rfl, g1⟩
  by_cases hl : 1000 < l.length
  · have hd : decide ((l.length : Int) > 1000) = true := by simp; omega
    clear hl
    go_wp2
    go_ret
    exact ⟨rfl, g1⟩
  have hd : decide ((l.length : Int) > 1000) = false := by simp; omega
  have kf1 := sfields_any l _ _ (HB.out.grew g1) (by omega)
  have HA := Lib.hid (fieldsR_again l)
  have HLN := Lib.hid (show (fieldsR l).1.length ≤ 1000 by have := fieldsR_len l; omega)
  have HE0 := Lib.hid (fieldsR_nil l)
  have HOK := Lib.hid (fieldsR_ok l)
  obtain ⟨R, hR⟩ : ∃ R, R = fieldsR l := ⟨_, rfl⟩
  rw [← hR] at kf1 HA HLN HE0 HOK
  have KF := Lib.hid kf1
  clear kf1 hR
  go_wp2_with fail
  refine KF.out.mono ?_
  rintro e w2 ⟨v2, rfl, ho2, g2⟩
  obtain ⟨a2, c2, rfl⟩ := ho2.frs.shape
  have f2 := Blk.new w2 27 #[.int .i64 (R.2.1 : Nat), .int .i64 (R.2.2 : Nat)]
  have h2 := grew_alloc w2 (.cells #[.int .i64 (R.2.1 : Nat), .int .i64 (R.2.2 : Nat)] 27)
  by_cases he : R.2.1 ≠ 0
  · have hne : ((R.2.1 : Int) != 0) = true := by simp; omega
    have hn0 : R.1.length = 0 := by rw [HE0.out he]; rfl
    clear he
    go_wp2
    go_ret
    exact ⟨rfl, (g1.trans g2).trans h2⟩
  have hne : ((R.2.1 : Int) != 0) = false := by simp; omega
  obtain ⟨A1, A2, A3, A4, A5⟩ := HA.out (by omega)
  obtain ⟨ps, hps, hV⟩ := ho2
  have hok := HOK.out (by omega)
  have hfl : FlR w2 _ ps := hV.flr
  have HFL := Lib.hid (fun W (hW : Grew w2 W) => hfl.grew hW)
  have hplen : ps.length = R.1.length := by rw [← hps, List.length_map]
  have kp := fun W hW => skPut_any ps _ W (HFL.out W hW) (fun p hp => by have := hok p.1 (by rw [← hps]; exact List.mem_map_of_mem hp); exact ⟨this.1, by omega⟩) (by have := HLN.out; omega)
  rw [hps] at kp
  obtain ⟨P, hP⟩ : ∃ P, P = putsF 0 R.1 := ⟨_, rfl⟩
  rw [← hP] at A1 A2 A3 A4 kp
  have hP2 : P.2 = (0, 0) := by rw [hP]; exact putsF_ok _ _ (by rw [← hP]; exact A1)
  have hP3 : P.2.1 = 0 ∧ P.2.2 = 0 := by rw [hP2]; exact ⟨rfl, rfl⟩
  rw [hP3.1, hP3.2] at kp
  have HP5 := Lib.hid A5
  rw [← hP] at HP5
  have KP := Lib.hid kp
  have HPS := Lib.hid hps
  have HPL := Lib.hid hplen
  clear he hok hV kp A1 A5 hP hP2 hP3 hps hplen
  go_wp2_with fail
  refine (KP.out _ h2).mono ?_
  rintro e w3 ⟨v3, rfl, ho3, g3⟩
  obtain ⟨a3, n3, c3, rfl, hn3⟩ := bs_shape (Sl.of_own ho3)
  have h3 := grew_alloc w3 (.cells #[.int .i64 0, .int .i64 0] 27)
  have f3 := Blk.new w3 27 #[.int .i64 0, .int .i64 0]
  have km := sfields_any P.1 _ _ ((Sl.of_own ho3).grew h3) (by omega)
  obtain ⟨M, hM⟩ : ∃ M, M = fieldsR P.1 := ⟨_, rfl⟩
  rw [← hM] at km A3 A4
  have hM1 : M.2.1 = 0 ∧ M.2.2 = 0 := by rw [A3]; exact ⟨rfl, rfl⟩
  rw [hM1.1, hM1.2] at km
  have HP6 := Lib.hid HP5.out
  rw [← hM] at HP6
  have HA4 := Lib.hid A4
  have HA2 := Lib.hid A2
  have KM := Lib.hid km
  clear km hM hM1 A3 A4 A2 ho3
  go_wp2_with fail
  refine KM.out.mono ?_
  rintro e w4 ⟨v4, rfl, ⟨qs, hqs, hW4⟩, g4⟩
  obtain ⟨a4, c4, e4, -⟩ := hW4.flr.1.open
  subst e4
  have hql : qs.length = M.1.length := by rw [← hqs, List.length_map]
  have hq3 : ((qs.length : Int) != (R.1.length : Int)) = false := by rw [hql, HA4.out]; simp
  have HQL := Lib.hid hql
  clear hql
  have hn9 : decide ((n3 : Int) > (l.length : Int)) = false := by have := hn3.out; have := HA2.out; simp; omega
  go_upto_region 10 with (fail)
  obtain ⟨W5, hW5⟩ : ∃ W5, W5 = w4.alloc (.cells #[.int .i64 0, .int .i64 0] 27) := ⟨_, rfl⟩
  rw [← hW5]
  have g5 : Grew w4 W5 := by rw [hW5]; exact grew_alloc _ _
  have f5 : Blk W5 w4.heap.size 27 #[.int .i64 0, .int .i64 0] := by rw [hW5]; exact Blk.new _ _ _
  have f6 := (f3.grew g4).grew g5
  have hQ := (hW4.flr.grew g5)
  have hPf := HFL.out W5 (((h2.trans g3).trans h3).trans (g4.trans g5))
  have G5 : Grew w W5 := ((g1.trans g2).trans ((h2.trans g3).trans h3)).trans (g4.trans g5)
  obtain ⟨e0, e1, -⟩ := cells_of f5
  obtain ⟨e2, e3, -⟩ := cells_of f6
  have HQ := Lib.hid hQ
  rw [← HPL.out] at hPf
  have HPf := Lib.hid hPf
  have HQS := Lib.hid hqs
  have hn3' : ¬ ((l.length : Int) < (n3 : Int)) := by have := hn3.out; have := HA2.out; omega
  have hm3 : maxLen = 9223372036854775807 := rfl
  clear hW5 hW4 hfl f3 f5 f6 hQ hPf hqs
  go_wp2
  go_loopw [9] (fun i wr => (∃ k : Nat, k ≤ R.1.length ∧ i = .int .i64 k) ∧ Grew W5 wr) (fun i _ => R.1.length - (intOf i).toNat)
  case atStart => exact ⟨⟨0, Nat.zero_le _, rfl⟩, Below.refl _ _⟩
  case round =>
    obtain ⟨⟨k, hk, rfl⟩, hG⟩ := hrel
    by_cases hlt : k < R.1.length
    · have hlp : k < ps.length := by rw [HPL.out]; exact hlt
      have hlq : k < qs.length := by rw [HQL.out, HA4.out]; exact hlt
      have hfp := HPf.out.grew hG
      have hfq := HQ.out.grew hG
      obtain ⟨_, _, ex, -, -, -, d1⟩ := hfp.1.open
      cases ex
      obtain ⟨b1, o1, rfl, -⟩ := d1 (by omega)
      obtain ⟨_, _, ex, -, -, -, d2⟩ := hfq.1.open
      cases ex
      obtain ⟨b2, o2, rfl, -⟩ := d2 (by omega)
      obtain ⟨x0, x1, x2, x3, x4, x5⟩ := fl_cells hfp k hlp
      obtain ⟨y0, y1, y2, y3, y4, y5⟩ := fl_cells hfq k hlq
      have hlk : likeF qs[k].1 ps[k].1 = true := by
        have h := HP6.out k (by rw [HA4.out]; exact hlt) hlt
        have e1 : M.1[k]'(by rw [HA4.out]; exact hlt) = qs[k].1 := by simp only [← HQS.out, List.getElem_map]
        have e2 : R.1[k]'hlt = ps[k].1 := by simp only [← HPS.out, List.getElem_map]
        rw [e1, e2] at h; exact h
      obtain ⟨⟨X, xv⟩, hr⟩ : ∃ r, r = ps[k] := ⟨_, rfl⟩
      obtain ⟨⟨Y, yv⟩, hs⟩ : ∃ r, r = qs[k] := ⟨_, rfl⟩
      rw [← hr] at x0 x1 x2 x3 x4 x5 hlk
      rw [← hs] at y0 y1 y2 y3 y4 y5 hlk
      simp only at x0 x1 x2 x3 x4 x5 y0 y1 y2 y3 y4 y5 hlk
      obtain ⟨xa, xn, xc, rfl, -⟩ := bs_shape x5
      obtain ⟨ya, yn, yc, rfl, -⟩ := bs_shape y5
      have CX := Lib.hid (fun W (hW : Grew wr W) => And.intro (below_ext hW _ _ x0) (And.intro (below_ext hW _ _ x1) (And.intro (below_ext hW _ _ x2) (And.intro (below_ext hW _ _ x3) (below_ext hW _ _ x4)))))
      have CY := Lib.hid (fun W (hW : Grew wr W) => And.intro (below_ext hW _ _ y0) (And.intro (below_ext hW _ _ y1) (And.intro (below_ext hW _ _ y2) (And.intro (below_ext hW _ _ y3) (below_ext hW _ _ y4)))))
      have kl := fun W (hW : GC wr W) => like_any Y X _ _ W (y5.grew hW.out) (x5.grew hW.out)
      rw [hlk] at kl
      have KL := Lib.hid kl
      have z1 : (k : Int) < (R.1.length : Int) := by omega
      have z2 : (k : Int) < (qs.length : Int) := by omega
      have z0 : (0 : Int) ≤ (k : Int) := by omega
      have hb63 : R.1.length ≤ 1000 := HLN.out
      clear hr hs x5 y5 x0 x1 x2 x3 x4 y0 y1 y2 y3 y4 kl hlk hfp hfq d1 d2 e0 e1 e2 e3
      go_wp2
      refine wp_region_grew wr (Below.refl _ _) (by kernel_rfl) (by kernel_rfl) ?_
      repeat (
        first
          | go_big_quiet_skip
          | (go_big_quiet_want; go_big_quiet_op; go_big_quiet_on)
          | (refine BigFrame.wpQuiet_want (by kernel_rfl) (fun K hK => ?_)
             apply Exists.intro
             apply And.intro
             · intro W hW
               obtain ⟨j0, j1, j2, j3, j4⟩ := CX.out W hW.out
               obtain ⟨i0, i1, i2, i3, i4⟩ := CY.out W hW.out
               go_simp
               first
                 | done
                 | rfl
                 | with_reducible exact q_calls hW (KL.out W hW) (fun _ _ h => h)
             refine hK _ ?_
             clear hK K)
        try simp only [Act.put, List.setIfInBounds_toArray, List.set_cons_zero, List.set_cons_succ])
      refine wpQuiet_nil ?_
      intro w6 g6
      have G6 := Lib.hid (hG.trans g6.out)
      clear g6
      go_wp2
      go_roundw
      case rel => exact ⟨⟨k + 1, by omega, by go_num⟩, G6.out⟩
      case measure => simp [intOf]; omega
    · obtain rfl : k = R.1.length := by omega
      go_wp2
      go_ret
      exact ⟨rfl, G5.trans hG⟩
end Go.Proofs.Ytgoaijpckckdnaa
