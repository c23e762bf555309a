/- SkipPuts: the walk. -/
import Derived.Test.YtgoaijpckckdnaaSl1
import Derived.Test.YtgoaijpckckdnaaSkT
import Derived.Test.YtgoaijpckckdnaaSkB
namespace Go.Proofs.Ytgoaijpckckdnaa
open Go Go.RowKit Go.Shelf
attribute [local go_sem] Oper.semAt_some

theorem fewF_iff {fs : List Fld} (h : fewF fs = true) : fs.length ≤ 40 ∧ ∀ x ∈ fs, (fB x).length ≤ 1000 := by
  unfold fewF at h
  simp only [Bool.and_eq_true, decide_eq_true_eq, List.all_eq_true] at h
  exact h
theorem putsF_len : ∀ (fs : List Fld) (i : Nat), (∀ x ∈ fs, x.ok) → (putsF i fs).1.length ≤ fs.length * 8212
  | [], i, _ => by simp [putsF]
  | x :: fs, i, h => by
    have h1 := putF_len (h x (List.mem_cons_self ..))
    have h2 := putsF_len fs (i + 1) (fun y hy => h y (List.mem_cons_of_mem _ hy))
    rw [putsF_cons]
    split
    · simp
    split
    · simp
    · simp only [List.length_append, List.length_cons]; omega
set_option maxRecDepth 100000 in
set_option maxHeartbeats 8000000 in
theorem skputs_walk (A : List FFV) (v : Value) (w : World) (hb : FlR w v A ∧ ∀ x ∈ A, x.1.ok) : Calls Try.prog 5 #[v] w fun e w' => e = .returned (.bool true) ∧ Grew w w' := by
  obtain ⟨hA, hok⟩ := hb
  obtain ⟨a, c, rfl, -⟩ := hA.1.open
  have HA := Lib.hid hA
  clear hA
  go_enter Try.func5, Try.ntmps5
  go_wp2_with fail
  refine (live06_any w).mono ?_
  rintro e w1 ⟨rfl, g1⟩
  go_wp2_with fail
  refine (few06_any A _ _ (HA.out.grew g1)).mono ?_
  rintro e w2 ⟨rfl, rfl⟩
  cases hfw : fewF (A.map (·.1)) with
  | false =>
    clear hfw
    go_wp2
    go_ret
    exact ⟨rfl, g1⟩
  | true =>
  obtain ⟨hl, hbs⟩ := fewF_iff hfw
  rw [List.length_map] at hl
  have hok2 : ∀ p ∈ A, p.1.ok ∧ (fB p.1).length ≤ 100000000 := fun p hp => ⟨hok p hp, by have := hbs p.1 (List.mem_map_of_mem hp); omega⟩
  have HP := Lib.hid (fieldsAt_put (A.map (·.1)) (putsF 0 (A.map (·.1))).1 0 0 (fun x hx => by obtain ⟨p, hp, rfl⟩ := List.mem_map.1 hx; exact hok p hp))
  have HE0 := Lib.hid (putsF_ok (A.map (·.1)) 0)
  have HLP := Lib.hid (show (putsF 0 (A.map (·.1))).1.length ≤ 1000000 by have := putsF_len (A.map (·.1)) 0 (fun x hx => by obtain ⟨p, hp, rfl⟩ := List.mem_map.1 hx; exact hok p hp); rw [List.length_map] at this; omega)
  have kp := skPut_any A _ w1 (HA.out.grew g1) hok2 (by omega)
  have kr := fun W hW => r06put_any A _ W (HA.out.grew hW) hok2 (by omega)
  obtain ⟨P, hP⟩ : ∃ P, P = putsF 0 (A.map (·.1)) := ⟨_, rfl⟩
  rw [← hP] at kp kr HP HE0 HLP
  have KP := Lib.hid kp
  have KR := Lib.hid kr
  clear kp kr hP hfw hbs hok2 hok
  go_wp2_with fail
  refine KP.out.mono ?_
  rintro e w2 ⟨v2, rfl, ho2, g2⟩
  obtain ⟨a2, n2, c2, rfl, hn2⟩ := bs_shape (Sl.of_own ho2)
  have f2 := Blk.new w2 27 #[.int .i64 (P.2.1 : Nat), .int .i64 (P.2.2 : Nat)]
  have h2 := grew_alloc w2 (.cells #[.int .i64 (P.2.1 : Nat), .int .i64 (P.2.2 : Nat)] 27)
  have HB2 := Lib.hid ((Sl.of_own ho2).grew h2)
  clear ho2
  go_wp2_with fail
  refine (KR.out _ ((g1.trans g2).trans h2)).mono ?_
  rintro e w3 ⟨v3, rfl, ho3, g3⟩
  obtain ⟨a3, n3, c3, rfl, hn3⟩ := bs_shape (Sl.of_own ho3)
  have HB3 := Lib.hid (Sl.of_own ho3)
  clear ho3
  go_upto_region 7 with (fail)
  obtain ⟨W6, hW6⟩ : ∃ W6, W6 = w3.alloc (.cells #[.int .i64 (P.2.1 : Nat), .int .i64 (P.2.2 : Nat)] 27) := ⟨_, rfl⟩
  have h3 : Grew w3 W6 := by rw [hW6]; exact grew_alloc _ _
  have f3 : Blk W6 w3.heap.size 27 #[.int .i64 (P.2.1 : Nat), .int .i64 (P.2.2 : Nat)] := by rw [hW6]; exact Blk.new _ _ _
  rw [← hW6]
  have f4 := (f2.grew g3).grew h3
  obtain ⟨e0, e1, -⟩ := cells_of f3
  obtain ⟨e2, e3, -⟩ := cells_of f4
  have KS := Lib.hid (same_any P.1 P.1 _ _ W6 ((HB2.out.grew g3).grew h3) (HB3.out.grew h3))
  have G6 : Grew w W6 := (((g1.trans g2).trans h2).trans g3).trans h3
  have F3 := Lib.hid f3
  clear hW6 f2 f3 f4
  go_wp2_with fail
  refine KS.out.mono ?_
  rw [beq_self_eq_true]
  rintro e W7 ⟨rfl, hd7⟩
  have g7 := hd7.grew
  have f7 := F3.out.grew g7
  clear e0 e1 e2 e3 hd7
  obtain ⟨e0, e1, -⟩ := cells_of f7
  by_cases he : P.2.1 ≠ 0
  · have hne : ((P.2.1 : Int) != 0) = true := by simp; omega
    clear he
    go_wp2
    go_ret
    exact ⟨rfl, G6.trans g7⟩
  have hne : ((P.2.1 : Int) != 0) = false := by simp; omega
  have hP0 : P.2.1 = 0 := by omega
  obtain ⟨A3, A4, A5⟩ := HP.out hP0 (Nat.zero_le _) rfl
  have km := fun W hW => sfields_any P.1 _ W (HB2.out.grew hW) (by have := HLP.out; omega)
  rw [show fieldsR P.1 = fieldsAt P.1 0 from rfl] at km
  obtain ⟨M, hM⟩ : ∃ M, M = fieldsAt P.1 0 := ⟨_, rfl⟩
  rw [← hM] at km A3 A4
  have hM1 : M.2.1 = 0 ∧ M.2.2 = 0 := by rw [A3]; exact ⟨rfl, rfl⟩
  rw [hM1.1, hM1.2] at km
  have HP6 := Lib.hid A5
  rw [← hM] at HP6
  rw [List.length_map] at A4
  have HA4 := Lib.hid A4
  have KM := Lib.hid km
  clear km hM hM1 A3 A4 A5 he hP0
  go_wp2_with fail
  refine (KM.out _ ((g3.trans h3).trans g7)).mono ?_
  rintro e w4 ⟨v4, rfl, ⟨qs, hqs, hW4⟩, g4⟩
  obtain ⟨a4, c4, e4, -⟩ := hW4.flr.1.open
  subst e4
  have hql : qs.length = M.1.length := by rw [← hqs, List.length_map]
  have hq3 : ((qs.length : Int) != (A.length : Int)) = false := by rw [hql, HA4.out]; simp
  have HQL := Lib.hid hql
  clear hql
  go_upto_region 12 with (fail)
  obtain ⟨W5, hW5⟩ : ∃ W5, W5 = w4.alloc (.cells #[.int .i64 0, .int .i64 0] 27) := ⟨_, rfl⟩
  rw [← hW5]
  have g5 : Grew w4 W5 := by rw [hW5]; exact grew_alloc _ _
  have f5 : Blk W5 w4.heap.size 27 #[.int .i64 0, .int .i64 0] := by rw [hW5]; exact Blk.new _ _ _
  have hQ := (hW4.flr.grew g5)
  have G5 : Grew w W5 := ((G6.trans g7).trans g4).trans g5
  have hPf := HA.out.grew G5
  clear e0 e1
  obtain ⟨e0, e1, -⟩ := cells_of f5
  have HQ := Lib.hid hQ
  have HPf := Lib.hid hPf
  have HQS := Lib.hid hqs
  clear hW5 hW4 f5 f7 hQ hPf hqs
  go_wp2
  go_loopw [9] (fun i wr => (∃ k : Nat, k ≤ A.length ∧ i = .int .i64 k) ∧ Grew W5 wr) (fun i _ => A.length - (intOf i).toNat)
  case atStart => exact ⟨⟨0, Nat.zero_le _, rfl⟩, Below.refl _ _⟩
  case round =>
    obtain ⟨⟨k, hk, rfl⟩, hG⟩ := hrel
    by_cases hlp : k < A.length
    · have hlq : k < qs.length := by rw [HQL.out, HA4.out]; exact hlp
      have hfp := HPf.out.grew hG
      have hfq := HQ.out.grew hG
      obtain ⟨_, _, ex, -, -, -, d1⟩ := hfp.1.open
      cases ex
      obtain ⟨b1, o1, rfl, -⟩ := d1 (by omega)
      obtain ⟨_, _, ex, -, -, -, d2⟩ := hfq.1.open
      cases ex
      obtain ⟨b2, o2, rfl, -⟩ := d2 (by omega)
      obtain ⟨x0, x1, x2, x3, x4, x5⟩ := fl_cells hfp k hlp
      obtain ⟨y0, y1, y2, y3, y4, y5⟩ := fl_cells hfq k hlq
      have hlk : likeF qs[k].1 (bareF A[k].1) = true := by
        have h := HP6.out k (by rw [HA4.out]; exact hlp) (by rw [List.length_map]; exact hlp)
        have e1 : M.1[k]'(by rw [HA4.out]; exact hlp) = qs[k].1 := by simp only [← HQS.out, List.getElem_map]
        rw [e1, List.getElem_map] at h; exact h
      obtain ⟨⟨X, xv⟩, hr⟩ : ∃ r, r = A[k] := ⟨_, rfl⟩
      obtain ⟨⟨Y, yv⟩, hs⟩ : ∃ r, r = qs[k] := ⟨_, rfl⟩
      rw [← hr] at x0 x1 x2 x3 x4 x5 hlk
      rw [← hs] at y0 y1 y2 y3 y4 y5 hlk
      simp only at x0 x1 x2 x3 x4 x5 y0 y1 y2 y3 y4 y5 hlk
      obtain ⟨xa, xn, xc, rfl, -⟩ := bs_shape x5
      obtain ⟨ya, yn, yc, rfl, -⟩ := bs_shape y5
      have CX := Lib.hid (fun W (hW : Grew wr W) => And.intro (below_ext hW _ _ x0) (And.intro (below_ext hW _ _ x1) (And.intro (below_ext hW _ _ x2) (And.intro (below_ext hW _ _ x3) (below_ext hW _ _ x4)))))
      have CY := Lib.hid (fun W (hW : Grew wr W) => And.intro (below_ext hW _ _ y0) (And.intro (below_ext hW _ _ y1) (And.intro (below_ext hW _ _ y2) (And.intro (below_ext hW _ _ y3) (below_ext hW _ _ y4)))))
      have KB := Lib.hid (fun W (hW : GC wr W) => bare_any X _ W (x5.grew hW.out))
      have kl := fun W (hW : GC wr W) => like_any Y (bareF X) _ _ W (y5.grew hW.out) (bareV_bs (x5.grew hW.out))
      rw [hlk] at kl
      obtain ⟨Z, hZ⟩ : ∃ Z, Z = bareF X := ⟨_, rfl⟩
      obtain ⟨zv, hzv⟩ : ∃ zv, zv = bareV X (.slice xa xn xc) := ⟨_, rfl⟩
      rw [← hZ, ← hzv] at kl KB
      have KL := Lib.hid kl
      have z1 : (k : Int) < (A.length : Int) := by omega
      have z2 : (k : Int) < (qs.length : Int) := by omega
      have z0 : (0 : Int) ≤ (k : Int) := by omega
      clear hr hs x5 y5 x0 x1 x2 x3 x4 y0 y1 y2 y3 y4 kl hlk hfp hfq d1 d2 e0 e1 hZ hzv
      go_wp2
      refine wp_region_grew wr (Below.refl _ _) (by kernel_rfl) (by kernel_rfl) ?_
      repeat (
        first
          | go_big_quiet_skip
          | (go_big_quiet_want; go_big_quiet_op; go_big_quiet_on)
          | (refine BigFrame.wpQuiet_want (by kernel_rfl) (fun K hK => ?_)
             apply Exists.intro
             apply And.intro
             · intro W hW
               obtain ⟨j0, j1, j2, j3, j4⟩ := CX.out W hW.out
               obtain ⟨i0, i1, i2, i3, i4⟩ := CY.out W hW.out
               go_simp
               first
                 | done
                 | rfl
                 | with_reducible exact q_calls hW (KB.out W hW) (fun _ _ h => h)
                 | with_reducible exact q_calls hW (KL.out W hW) (fun _ _ h => h)
             refine hK _ ?_
             clear hK K)
        try simp only [Act.put, List.setIfInBounds_toArray, List.set_cons_zero, List.set_cons_succ])
      refine wpQuiet_nil ?_
      intro w6 g6
      have G6 := Lib.hid (hG.trans g6.out)
      clear g6
      go_wp2
      go_roundw
      case rel => exact ⟨⟨k + 1, by omega, by go_num⟩, G6.out⟩
      case measure => simp [intOf]; omega
    · obtain rfl : k = A.length := by omega
      go_wp2
      go_ret
      exact ⟨rfl, G5.trans hG⟩
end Go.Proofs.Ytgoaijpckckdnaa
