/- rescriptref16.One: contract. -/
import Derived.Test.YtoinndlialimcaaStR
namespace Go.Proofs.Ytoinndlialimcaa
open Go Go.RowKit Go.Shelf

set_option maxRecDepth 100000 in
set_option maxHeartbeats 8000000 in
theorem r16one_4 (b : List UInt8) (e : Ed) (vb ve : Value) (w : World) (hb : Bs w vb b) (he : Bs w ve e.bytes) (hok : e.ok) (hlen : b.length ≤ 1048576) (hk : e.kind = 4) :
    Calls Try.prog 11 #[vb, .int .i64 e.kind, .int .i64 e.at', .int .i64 e.n, .int .i64 e.to, ve] w (OneP b e w) := by
  obtain ⟨kd, at', n, to, bytes⟩ := e
  obtain rfl : kd = 4 := hk
  obtain ⟨-, ok2, ok3, ok4, ok5⟩ := hok
  simp only at ok2 ok3 ok4 ok5 he
  obtain ⟨ab, cb, rfl, hc1, hc2, -, -⟩ := hb.open
  unfold maxLen at hc2
  obtain ⟨ae, ce, rfl⟩ := bs_len he
  obtain ⟨e, hed⟩ : ∃ e : Ed, e = ⟨4, at', n, to, bytes⟩ := ⟨_, rfl⟩
  have hp := eAt_le b e
  have hc := eN_le b e
  have e1 : restN at' (b.length + 1) = eAt b e := by rw [hed]; rfl
  have e2 : restN n (b.length - eAt b e + 1) = eN b e := by rw [hed]; rfl
  have K1 := Lib.hid (fun W kI hkI => r16rest_any at' kI (b.length + 1) hkI (by omega) (by omega) ok2.1 ok2.2 W)
  have K2 := Lib.hid (fun W kI hkI => r16rest_any n kI (b.length - eAt b e + 1) hkI (by omega) (by omega) ok3.1 ok3.2 W)
  rw [e1] at K1
  rw [e2] at K2
  have hol := oneM_len b e
  rw [← hed]
  simp only [hed]
  rw [← hed]
  have HB := Lib.hid hb
  have HE := Lib.hid he
  have hM : oneM b e = b.take (eAt b e) ++ bytes.take 10000 ++ b.drop (eAt b e) := by
    unfold oneM
    rw [hed]
    simp only [show ¬ ((4 : Int) = 1) by decide, show ¬ ((4 : Int) = 2) by decide, show ¬ ((4 : Int) = 3) by decide, if_false, if_true]
  have hq5 : (min (bytes.length : Int) 10000).toNat = min bytes.length 10000 := by omega
  have hq6 : (0 : Int) ≤ min (bytes.length : Int) 10000 := by omega
  have hq7 : min (bytes.length : Int) 10000 ≤ (ce : Int) := by
    obtain ⟨_, _, e, q1, _⟩ := he.open
    simp only [Value.slice.injEq] at e
    omega
  obtain ⟨J, hJ⟩ : ∃ J, J = b.take (eAt b e) ++ bytes.take 10000 := ⟨_, rfl⟩
  have hJl : J.length ≤ b.length + 10000 := by rw [hJ, List.length_append, List.length_take, List.length_take]; omega
  rw [← hJ] at hM
  have HJ := Lib.hid hJ
  clear hJ
  obtain ⟨L, hL⟩ : ∃ L, L = oneM b e := ⟨_, rfl⟩
  rw [← hL] at hM hol
  have HM := Lib.hid hM
  unfold OneP
  rw [← hL]
  clear hM e1 e2 hb he hL
  generalize hpp : eAt b e = p at *
  generalize hcc : eN b e = c at *
  clear hpp hcc hed
  have hq0 : (min (L.length : Int) 1048576).toNat = min L.length 1048576 := by omega
  have hq1 : (0 : Int) ≤ min (L.length : Int) 1048576 := by omega
  have z1 : (p : Int) ≤ (b.length : Int) := by omega
  have z2 : (p : Int) + (c : Int) ≤ (b.length : Int) := by omega
  have z4 : (p : Int) + (c : Int) ≤ (cb : Int) := by omega
  have z5 : (p : Int) ≤ (cb : Int) := by omega
  have z6 : ((p : Int) + (c : Int)).toNat = p + c := by omega
  have z7 : IntKind.i64.wrap ((p : Int) + (c : Int)) = (p : Int) + (c : Int) := by rw [IntKind.wrap_i64]; omega
  have z8 : (0 : Int) ≤ (p : Int) + (c : Int) := by omega
  have z9 : (p : Int) ≤ (p : Int) + (c : Int) := by omega
  rcases Nat.decEq cb p with hq | hq
  · go_enter Try.func11, Try.ntmps11
    go_wp2_with fail
    refine (K1.out _ _ (by omega)).mono ?_
    rintro x w1 ⟨rfl, rfl⟩
    go_wp2_with fail
    refine (K2.out _ _ (by omega)).mono ?_
    rintro x w1 ⟨rfl, rfl⟩
    have hbm : Bs w (.slice ae (min bytes.length 10000) ce) (bytes.take 10000) := by
      have := bs_take HE.out (min bytes.length 10000) (by omega)
      rwa [show bytes.take (min bytes.length 10000) = bytes.take 10000 by rw [List.take_eq_take_iff]; omega] at this
    have HBM := Lib.hid hbm
    clear hbm
    go_wp2_with fail
    refine wp_region_held_drew (S := fun _ => True) (by kernel_rfl) trivial (fun _ => ?_)
    refine wpAnyH_take (i := 0) (oi := _) (v := ?_) rfl (by kernel_rfl) (by kernel_rfl) (by kernel_rfl) (fun _ _ _ h => h) (Or.inl ⟨by rfl, ?_⟩) trivial ?_
    rotate_left
    · (intro W _; go_simp; try with_reducible rfl)
    (try simp only [Act.put, List.setIfInBounds_toArray])
    refine wpAnyH_take (i := 1) (oi := _) (v := ?_) rfl (by kernel_rfl) (by kernel_rfl) (by kernel_rfl) (fun _ _ _ h => h) (Or.inl ⟨by rfl, ?_⟩) trivial ?_
    rotate_left
    · (intro W _; go_simp; try with_reducible rfl)
    (try simp only [Act.put])
    refine wpAnyH_take (i := 2) (oi := _) (v := ?_) rfl (by kernel_rfl) (by kernel_rfl) (by kernel_rfl) (fun _ _ _ h => h) (Or.inl ⟨by rfl, ?_⟩) trivial ?_
    rotate_left
    · (intro W _; go_simp; try with_reducible rfl)
    (try simp only [Act.put])
    refine wpAnyH_take (i := 3) (oi := _) (v := ?_) rfl (by kernel_rfl) (by kernel_rfl) (by kernel_rfl) (fun _ _ _ h => h) (Or.inl ⟨by rfl, ?_⟩) trivial ?_
    rotate_left
    · (intro W _; go_simp; try with_reducible rfl)
    (try simp only [Act.put])
    refine wpAnyH_take (i := 4) (oi := _) (v := ?_) rfl (by kernel_rfl) (by kernel_rfl) (by kernel_rfl) (fun _ _ _ h => h) (Or.inl ⟨by rfl, ?_⟩) trivial ?_
    rotate_left
    · (intro W _; go_simp; try with_reducible rfl)
    (try simp only [Act.put])
    refine wpAnyH_take (i := 5) (oi := _) (v := ?_) rfl (by kernel_rfl) (by kernel_rfl) (by kernel_rfl) (fun _ _ _ h => h) (Or.inl ⟨by rfl, ?_⟩) trivial ?_
    rotate_left
    · (intro W _; go_simp; try with_reducible rfl)
    (try simp only [Act.put])
    refine wpAnyH_take (i := 6) (oi := _) (v := ?_) rfl (by kernel_rfl) (by kernel_rfl) (by kernel_rfl) (fun _ _ _ h => h) (Or.inl ⟨by rfl, ?_⟩) trivial ?_
    rotate_left
    · (intro W _; go_simp; try with_reducible rfl)
    (try simp only [Act.put])
    refine wpAnyH_take (i := 7) (oi := _) (v := ?_) rfl (by kernel_rfl) (by kernel_rfl) (by kernel_rfl) (fun _ _ _ h => h) (Or.inl ⟨by rfl, ?_⟩) trivial ?_
    rotate_left
    · (intro W _; go_simp; try with_reducible rfl)
    (try simp only [Act.put])
    refine wpAnyH_take (i := 9) (oi := _) (v := ?_) rfl (by kernel_rfl) (by kernel_rfl) (by kernel_rfl) (fun _ _ _ h => h) (Or.inl ⟨by rfl, ?_⟩) trivial ?_
    rotate_left
    · (intro W _; go_simp; try with_reducible rfl)
    (try simp only [Act.put])
    refine wpAnyH_take (i := 10) (oi := _) (v := ?_) rfl (by kernel_rfl) (by kernel_rfl) (by kernel_rfl) (fun _ _ _ h => h) (Or.inl ⟨by rfl, ?_⟩) trivial ?_
    rotate_left
    · (intro W _; go_simp; try with_reducible rfl)
    (try simp only [Act.put])
    refine wpAnyH_take (i := 11) (oi := _) (v := ?_) rfl (by kernel_rfl) (by kernel_rfl) (by kernel_rfl) (fun _ _ _ h => h) (Or.inl ⟨by rfl, ?_⟩) trivial ?_
    rotate_left
    · (intro W _; go_simp; try with_reducible rfl)
    (try simp only [Act.put])
    refine wpAnyH_ready (rs := [8]) (by kernel_rfl) (by simp) ?_
    refine AllReadyH.cons (o := _) rfl (fun K hK => ?_) AllReadyH.nil
    go_simp
    refine (join_any (b.take p) (bytes.take 10000) _ _ _ ((bs_pre HB.out hp).grew (Drew.grew ⟨1, rfl⟩)) (HBM.out.grew (Drew.grew ⟨1, rfl⟩)) (by simp; omega)).mono ?_
    rintro x w4 ⟨v4, rfl, o4, g4⟩
    rw [← HJ.out] at o4
    obtain ⟨a4, c4, rfl, hq4, -⟩ := (Sl.of_own o4).open
    have O4 := Lib.hid o4
    clear o4
    go_simp
    refine hK.out _ _ trivial (fun _ => ?_)
    clear hK K
    (try simp only [Act.put, List.setIfInBounds_toArray, List.set_cons_zero, List.set_cons_succ])
    refine wpAnyH_ready (rs := [12]) (by kernel_rfl) (by simp) ?_
    refine AllReadyH.cons (o := _) rfl (fun K hK => ?_) AllReadyH.nil
    go_simp
    refine (join_any J (b.drop p) _ _ _ (Sl.of_own O4.out) ((bs_suf HB.out hp _ (by first | exact .inr rfl | exact .inl ⟨rfl, by simp only [Value.slice.injEq, true_and]; omega⟩)).grew ((Drew.grew ⟨1, rfl⟩ : Grew w w.drew).trans g4)) (by simp; omega)).mono ?_
    rintro x w2 ⟨v2, rfl, o2, g2⟩
    rw [← HM.out] at o2
    obtain ⟨a2, c2, rfl, hq2, -⟩ := (Sl.of_own o2).open
    have O2 := Lib.hid o2
    clear o2
    go_simp
    refine hK.out _ _ trivial (fun _ => ?_)
    clear hK K
    (try simp only [Act.put, List.setIfInBounds_toArray, List.set_cons_zero, List.set_cons_succ])
    refine wpAnyH_tail 13 rfl (by kernel_rfl) (by kernel_rfl) (fun _ => trivial) ?_
    simp only [List.drop_succ_cons, List.drop_zero]
    repeat (quiet_step (fail))
    refine wpQuiet_nil ?_
    rintro _ ⟨nq, rfl⟩
    have hm2 : min (L.length : Int) 1048576 ≤ (c2 : Int) := by omega
    go_wp2
    go_ret
    exact ⟨_, rfl, bs_min ((Sl.of_own O2.out).grew (Drew.grew ⟨nq, rfl⟩)), (((Drew.grew ⟨1, rfl⟩ : Grew w w.drew).trans g4).trans g2).trans (Drew.grew ⟨nq, rfl⟩)⟩
  · obtain rfl : p = cb := hq.symm
    go_enter Try.func11, Try.ntmps11
    go_wp2_with fail
    refine (K1.out _ _ (by omega)).mono ?_
    rintro x w1 ⟨rfl, rfl⟩
    go_wp2_with fail
    refine (K2.out _ _ (by omega)).mono ?_
    rintro x w1 ⟨rfl, rfl⟩
    have hbm : Bs w (.slice ae (min bytes.length 10000) ce) (bytes.take 10000) := by
      have := bs_take HE.out (min bytes.length 10000) (by omega)
      rwa [show bytes.take (min bytes.length 10000) = bytes.take 10000 by rw [List.take_eq_take_iff]; omega] at this
    have HBM := Lib.hid hbm
    clear hbm
    go_wp2_with fail
    refine wp_region_held_drew (S := fun _ => True) (by kernel_rfl) trivial (fun _ => ?_)
    refine wpAnyH_take (i := 0) (oi := _) (v := ?_) rfl (by kernel_rfl) (by kernel_rfl) (by kernel_rfl) (fun _ _ _ h => h) (Or.inl ⟨by rfl, ?_⟩) trivial ?_
    rotate_left
    · (intro W _; go_simp; try with_reducible rfl)
    (try simp only [Act.put, List.setIfInBounds_toArray])
    refine wpAnyH_take (i := 1) (oi := _) (v := ?_) rfl (by kernel_rfl) (by kernel_rfl) (by kernel_rfl) (fun _ _ _ h => h) (Or.inl ⟨by rfl, ?_⟩) trivial ?_
    rotate_left
    · (intro W _; go_simp; try with_reducible rfl)
    (try simp only [Act.put])
    refine wpAnyH_take (i := 2) (oi := _) (v := ?_) rfl (by kernel_rfl) (by kernel_rfl) (by kernel_rfl) (fun _ _ _ h => h) (Or.inl ⟨by rfl, ?_⟩) trivial ?_
    rotate_left
    · (intro W _; go_simp; try with_reducible rfl)
    (try simp only [Act.put])
    refine wpAnyH_take (i := 3) (oi := _) (v := ?_) rfl (by kernel_rfl) (by kernel_rfl) (by kernel_rfl) (fun _ _ _ h => h) (Or.inl ⟨by rfl, ?_⟩) trivial ?_
    rotate_left
    · (intro W _; go_simp; try with_reducible rfl)
    (try simp only [Act.put])
    refine wpAnyH_take (i := 4) (oi := _) (v := ?_) rfl (by kernel_rfl) (by kernel_rfl) (by kernel_rfl) (fun _ _ _ h => h) (Or.inl ⟨by rfl, ?_⟩) trivial ?_
    rotate_left
    · (intro W _; go_simp; try with_reducible rfl)
    (try simp only [Act.put])
    refine wpAnyH_take (i := 5) (oi := _) (v := ?_) rfl (by kernel_rfl) (by kernel_rfl) (by kernel_rfl) (fun _ _ _ h => h) (Or.inl ⟨by rfl, ?_⟩) trivial ?_
    rotate_left
    · (intro W _; go_simp; try with_reducible rfl)
    (try simp only [Act.put])
    refine wpAnyH_take (i := 6) (oi := _) (v := ?_) rfl (by kernel_rfl) (by kernel_rfl) (by kernel_rfl) (fun _ _ _ h => h) (Or.inl ⟨by rfl, ?_⟩) trivial ?_
    rotate_left
    · (intro W _; go_simp; try with_reducible rfl)
    (try simp only [Act.put])
    refine wpAnyH_take (i := 7) (oi := _) (v := ?_) rfl (by kernel_rfl) (by kernel_rfl) (by kernel_rfl) (fun _ _ _ h => h) (Or.inl ⟨by rfl, ?_⟩) trivial ?_
    rotate_left
    · (intro W _; go_simp; try with_reducible rfl)
    (try simp only [Act.put])
    refine wpAnyH_take (i := 9) (oi := _) (v := ?_) rfl (by kernel_rfl) (by kernel_rfl) (by kernel_rfl) (fun _ _ _ h => h) (Or.inl ⟨by rfl, ?_⟩) trivial ?_
    rotate_left
    · (intro W _; go_simp; try with_reducible rfl)
    (try simp only [Act.put])
    refine wpAnyH_take (i := 10) (oi := _) (v := ?_) rfl (by kernel_rfl) (by kernel_rfl) (by kernel_rfl) (fun _ _ _ h => h) (Or.inl ⟨by rfl, ?_⟩) trivial ?_
    rotate_left
    · (intro W _; go_simp; try with_reducible rfl)
    (try simp only [Act.put])
    refine wpAnyH_take (i := 11) (oi := _) (v := ?_) rfl (by kernel_rfl) (by kernel_rfl) (by kernel_rfl) (fun _ _ _ h => h) (Or.inl ⟨by rfl, ?_⟩) trivial ?_
    rotate_left
    · (intro W _; go_simp; try with_reducible rfl)
    (try simp only [Act.put])
    refine wpAnyH_ready (rs := [8]) (by kernel_rfl) (by simp) ?_
    refine AllReadyH.cons (o := _) rfl (fun K hK => ?_) AllReadyH.nil
    go_simp
    refine (join_any (b.take p) (bytes.take 10000) _ _ _ ((bs_pre HB.out hp).grew (Drew.grew ⟨1, rfl⟩)) (HBM.out.grew (Drew.grew ⟨1, rfl⟩)) (by simp; omega)).mono ?_
    rintro x w4 ⟨v4, rfl, o4, g4⟩
    rw [← HJ.out] at o4
    obtain ⟨a4, c4, rfl, hq4, -⟩ := (Sl.of_own o4).open
    have O4 := Lib.hid o4
    clear o4
    go_simp
    refine hK.out _ _ trivial (fun _ => ?_)
    clear hK K
    (try simp only [Act.put, List.setIfInBounds_toArray, List.set_cons_zero, List.set_cons_succ])
    refine wpAnyH_ready (rs := [12]) (by kernel_rfl) (by simp) ?_
    refine AllReadyH.cons (o := _) rfl (fun K hK => ?_) AllReadyH.nil
    go_simp
    refine (join_any J (b.drop p) _ _ _ (Sl.of_own O4.out) ((bs_suf HB.out hp _ (by first | exact .inr rfl | exact .inl ⟨rfl, by simp only [Value.slice.injEq, true_and]; omega⟩)).grew ((Drew.grew ⟨1, rfl⟩ : Grew w w.drew).trans g4)) (by simp; omega)).mono ?_
    rintro x w2 ⟨v2, rfl, o2, g2⟩
    rw [← HM.out] at o2
    obtain ⟨a2, c2, rfl, hq2, -⟩ := (Sl.of_own o2).open
    have O2 := Lib.hid o2
    clear o2
    go_simp
    refine hK.out _ _ trivial (fun _ => ?_)
    clear hK K
    (try simp only [Act.put, List.setIfInBounds_toArray, List.set_cons_zero, List.set_cons_succ])
    refine wpAnyH_tail 13 rfl (by kernel_rfl) (by kernel_rfl) (fun _ => trivial) ?_
    simp only [List.drop_succ_cons, List.drop_zero]
    repeat (quiet_step (fail))
    refine wpQuiet_nil ?_
    rintro _ ⟨nq, rfl⟩
    have hm2 : min (L.length : Int) 1048576 ≤ (c2 : Int) := by omega
    go_wp2
    go_ret
    exact ⟨_, rfl, bs_min ((Sl.of_own O2.out).grew (Drew.grew ⟨nq, rfl⟩)), (((Drew.grew ⟨1, rfl⟩ : Grew w w.drew).trans g4).trans g2).trans (Drew.grew ⟨nq, rfl⟩)⟩
set_option maxRecDepth 100000 in
set_option maxHeartbeats 8000000 in
theorem r16one_5 (b : List UInt8) (e : Ed) (vb ve : Value) (w : World) (hb : Bs w vb b) (he : Bs w ve e.bytes) (hok : e.ok) (hlen : b.length ≤ 1048576) (hk : e.kind = 5) :
    Calls Try.prog 11 #[vb, .int .i64 e.kind, .int .i64 e.at', .int .i64 e.n, .int .i64 e.to, ve] w (OneP b e w) := by
  obtain ⟨kd, at', n, to, bytes⟩ := e
  obtain rfl : kd = 5 := hk
  obtain ⟨-, ok2, ok3, ok4, ok5⟩ := hok
  simp only at ok2 ok3 ok4 ok5 he
  obtain ⟨ab, cb, rfl, hc1, hc2, -, -⟩ := hb.open
  unfold maxLen at hc2
  obtain ⟨ae, ce, rfl⟩ := bs_len he
  obtain ⟨e, hed⟩ : ∃ e : Ed, e = ⟨5, at', n, to, bytes⟩ := ⟨_, rfl⟩
  have hp := eAt_le b e
  have hc := eN_le b e
  have e1 : restN at' (b.length + 1) = eAt b e := by rw [hed]; rfl
  have e2 : restN n (b.length - eAt b e + 1) = eN b e := by rw [hed]; rfl
  have K1 := Lib.hid (fun W kI hkI => r16rest_any at' kI (b.length + 1) hkI (by omega) (by omega) ok2.1 ok2.2 W)
  have K2 := Lib.hid (fun W kI hkI => r16rest_any n kI (b.length - eAt b e + 1) hkI (by omega) (by omega) ok3.1 ok3.2 W)
  rw [e1] at K1
  rw [e2] at K2
  have hol := oneM_len b e
  rw [← hed]
  simp only [hed]
  rw [← hed]
  have HB := Lib.hid hb
  have HE := Lib.hid he
  have hM : oneM b e = (eLeft b e).take (eTo b e) ++ eOwn b e ++ (eLeft b e).drop (eTo b e) := by
    unfold oneM
    rw [hed]
    simp only [show ¬ ((5 : Int) = 1) by decide, show ¬ ((5 : Int) = 2) by decide, show ¬ ((5 : Int) = 3) by decide, show ¬ ((5 : Int) = 4) by decide, if_false, if_true]
  have hFl : eLeft b e = b.take (eAt b e) ++ b.drop (eAt b e + eN b e) := rfl
  have hOw : eOwn b e = (b.drop (eAt b e)).take (eN b e) := rfl
  have hT : eTo b e = restN to ((eLeft b e).length + 1) := by rw [hed]; rfl
  have hll : (eLeft b e).length ≤ b.length := by have := eLeft_len b e; omega
  have hol2 : (eOwn b e).length ≤ b.length := by rw [eOwn_len]; omega
  have K5 := Lib.hid (fun W kI hkI => r16rest_any to kI ((eLeft b e).length + 1) hkI (by omega) (by omega) ok4.1 ok4.2 W)
  have htl : eTo b e ≤ (eLeft b e).length := by rw [hT]; have := restN_lt to (k := (eLeft b e).length + 1) (by omega); omega
  rw [← hT] at K5
  generalize eTo b e = T at hM K5 htl
  clear hT
  generalize eLeft b e = F at hM hFl K5 hll htl
  generalize eOwn b e = O at hM hOw hol2
  obtain ⟨J, hJ⟩ : ∃ J, J = F.take T ++ O := ⟨_, rfl⟩
  have hJl : J.length ≤ 2 * b.length := by rw [hJ, List.length_append, List.length_take]; omega
  rw [← hJ] at hM
  have HJ := Lib.hid hJ
  have HFl := Lib.hid hFl
  have HOw := Lib.hid hOw
  clear hJ hFl hOw
  have z12 : IntKind.i64.wrap ((eAt b e : Nat) : Int) = ((eAt b e : Nat) : Int) := by rw [IntKind.wrap_i64]; omega
  obtain ⟨L, hL⟩ : ∃ L, L = oneM b e := ⟨_, rfl⟩
  rw [← hL] at hM hol
  have HM := Lib.hid hM
  unfold OneP
  rw [← hL]
  clear hM e1 e2 hb he hL
  generalize hpp : eAt b e = p at *
  generalize hcc : eN b e = c at *
  clear hpp hcc hed
  have hq0 : (min (L.length : Int) 1048576).toNat = min L.length 1048576 := by omega
  have hq1 : (0 : Int) ≤ min (L.length : Int) 1048576 := by omega
  have z1 : (p : Int) ≤ (b.length : Int) := by omega
  have z2 : (p : Int) + (c : Int) ≤ (b.length : Int) := by omega
  have z4 : (p : Int) + (c : Int) ≤ (cb : Int) := by omega
  have z5 : (p : Int) ≤ (cb : Int) := by omega
  have z6 : ((p : Int) + (c : Int)).toNat = p + c := by omega
  have z7 : IntKind.i64.wrap ((p : Int) + (c : Int)) = (p : Int) + (c : Int) := by rw [IntKind.wrap_i64]; omega
  have z8 : (0 : Int) ≤ (p : Int) + (c : Int) := by omega
  have z9 : (p : Int) ≤ (p : Int) + (c : Int) := by omega
  have hcases : (cb = p) ∨ (¬ cb = p ∧ cb = p + c) ∨ (¬ cb = p ∧ ¬ cb = p + c) := by omega
  rcases hcases with hq | ⟨hq2, hq⟩ | ⟨hq2, hq⟩
  · obtain rfl : p = cb := hq.symm
    obtain rfl : c = 0 := by omega
    go_enter Try.func11, Try.ntmps11
    go_wp2_with fail
    refine (K1.out _ _ (by omega)).mono ?_
    rintro x w1 ⟨rfl, rfl⟩
    go_wp2_with fail
    refine (K2.out _ _ (by omega)).mono ?_
    rintro x w1 ⟨rfl, rfl⟩
    go_wp2_with fail
    refine wp_region_held_drew (S := fun _ => True) (by kernel_rfl) trivial (fun _ => ?_)
    refine wpAnyH_take (i := 0) (oi := _) (v := ?_) rfl (by kernel_rfl) (by kernel_rfl) (by kernel_rfl) (fun _ _ _ h => h) (Or.inl ⟨by rfl, ?_⟩) trivial ?_
    rotate_left
    · (intro W _; go_simp; try with_reducible rfl)
    (try simp only [Act.put, List.setIfInBounds_toArray])
    refine wpAnyH_take (i := 1) (oi := _) (v := ?_) rfl (by kernel_rfl) (by kernel_rfl) (by kernel_rfl) (fun _ _ _ h => h) (Or.inl ⟨by rfl, ?_⟩) trivial ?_
    rotate_left
    · (intro W _; go_simp; try with_reducible rfl)
    (try simp only [Act.put])
    refine wpAnyH_take (i := 2) (oi := _) (v := ?_) rfl (by kernel_rfl) (by kernel_rfl) (by kernel_rfl) (fun _ _ _ h => h) (Or.inl ⟨by rfl, ?_⟩) trivial ?_
    rotate_left
    · (intro W _; go_simp; try with_reducible rfl)
    (try simp only [Act.put])
    refine wpAnyH_take (i := 3) (oi := _) (v := ?_) rfl (by kernel_rfl) (by kernel_rfl) (by kernel_rfl) (fun _ _ _ h => h) (Or.inl ⟨by rfl, ?_⟩) trivial ?_
    rotate_left
    · (intro W _; go_simp; try with_reducible rfl)
    (try simp only [Act.put])
    refine wpAnyH_take (i := 4) (oi := _) (v := ?_) rfl (by kernel_rfl) (by kernel_rfl) (by kernel_rfl) (fun _ _ _ h => h) (Or.inl ⟨by rfl, ?_⟩) trivial ?_
    rotate_left
    · (intro W _; go_simp; try with_reducible rfl)
    (try simp only [Act.put])
    refine wpAnyH_take (i := 5) (oi := _) (v := ?_) rfl (by kernel_rfl) (by kernel_rfl) (by kernel_rfl) (fun _ _ _ h => h) (Or.inl ⟨by rfl, ?_⟩) trivial ?_
    rotate_left
    · (intro W _; go_simp; try with_reducible rfl)
    (try simp only [Act.put])
    refine wpAnyH_take (i := 6) (oi := _) (v := ?_) rfl (by kernel_rfl) (by kernel_rfl) (by kernel_rfl) (fun _ _ _ h => h) (Or.inl ⟨by rfl, ?_⟩) trivial ?_
    rotate_left
    · (intro W _; go_simp; try with_reducible rfl)
    (try simp only [Act.put])
    refine wpAnyH_take (i := 7) (oi := _) (v := ?_) rfl (by kernel_rfl) (by kernel_rfl) (by kernel_rfl) (fun _ _ _ h => h) (Or.inl ⟨by rfl, ?_⟩) trivial ?_
    rotate_left
    · (intro W _; go_simp; try with_reducible rfl)
    (try simp only [Act.put])
    refine wpAnyH_ready (rs := [8]) (by kernel_rfl) (by simp) ?_
    refine AllReadyH.cons (o := _) rfl (fun K hK => ?_) AllReadyH.nil
    go_simp
    refine (join_any (b.take p) (b.drop (p + 0)) _ _ _ ((bs_pre HB.out hp).grew (Drew.grew ⟨1, rfl⟩)) ((bs_suf HB.out hc _ (by first | exact .inr rfl | exact .inl ⟨by omega, by rw [Nat.sub_self]; rfl⟩ | exact .inl ⟨by omega, by rw [Nat.sub_self, show b.length - (p + 0) = 0 by omega]; rfl⟩ | exact .inl ⟨by omega, by simp only [Value.slice.injEq, true_and]; omega⟩)).grew (Drew.grew ⟨1, rfl⟩)) (by simp; omega)).mono ?_
    rintro x w5 ⟨v5, rfl, o5, g5⟩
    rw [← HFl.out] at o5
    obtain ⟨a5, c5, rfl, hq5, hq6, -⟩ := (Sl.of_own o5).open
    have O5 := Lib.hid (Sl.of_own o5)
    clear o5
    go_simp
    refine hK.out _ _ trivial (fun _ => ?_)
    clear hK K
    (try simp only [Act.put, List.setIfInBounds_toArray, List.set_cons_zero, List.set_cons_succ])
    refine wpAnyH_tail 9 rfl (by kernel_rfl) (by kernel_rfl) (fun _ => trivial) ?_
    simp only [List.drop_succ_cons, List.drop_zero]
    repeat (quiet_step (fail))
    refine wpQuiet_nil ?_
    rintro _ ⟨nq, rfl⟩
    have G5 := ((Drew.grew ⟨1, rfl⟩ : Grew w w.drew).trans g5).trans (Drew.grew ⟨nq, rfl⟩ : Grew w5 (w5.drewN nq))
    have O6 := Lib.hid (O5.out.grew (Drew.grew ⟨nq, rfl⟩ : Grew w5 (w5.drewN nq)))
    generalize w5.drewN nq = w6 at G5 O6 ⊢
    unfold maxLen at hq6
    have z10 : (T : Int) ≤ (F.length : Int) := by omega
    have z11 : (T : Int) ≤ (c5 : Int) := by omega
    go_wp2_with fail
    refine (K5.out _ _ (by omega)).mono ?_
    rintro x w7 ⟨rfl, rfl⟩
    have hbo := bs_piece (HB.out.grew G5) (i := p) (j := p + 0) (by omega) hc
    rw [Nat.add_sub_cancel_left, ← HOw.out] at hbo
    have HBO := Lib.hid hbo
    clear hbo
    rcases Nat.decEq c5 T with hcT | hcT
    · go_wp2_with fail
      refine wp_region_held_drew (S := fun _ => True) (by kernel_rfl) trivial (fun _ => ?_)
      refine wpAnyH_take (i := 0) (oi := _) (v := ?_) rfl (by kernel_rfl) (by kernel_rfl) (by kernel_rfl) (fun _ _ _ h => h) (Or.inl ⟨by rfl, ?_⟩) trivial ?_
      rotate_left
      · (intro W _; go_simp; try with_reducible rfl)
      (try simp only [Act.put, List.setIfInBounds_toArray])
      refine wpAnyH_take (i := 1) (oi := _) (v := ?_) rfl (by kernel_rfl) (by kernel_rfl) (by kernel_rfl) (fun _ _ _ h => h) (Or.inl ⟨by rfl, ?_⟩) trivial ?_
      rotate_left
      · (intro W _; go_simp; try with_reducible rfl)
      (try simp only [Act.put])
      refine wpAnyH_take (i := 2) (oi := _) (v := ?_) rfl (by kernel_rfl) (by kernel_rfl) (by kernel_rfl) (fun _ _ _ h => h) (Or.inl ⟨by rfl, ?_⟩) trivial ?_
      rotate_left
      · (intro W _; go_simp; try with_reducible rfl)
      (try simp only [Act.put])
      refine wpAnyH_take (i := 3) (oi := _) (v := ?_) rfl (by kernel_rfl) (by kernel_rfl) (by kernel_rfl) (fun _ _ _ h => h) (Or.inl ⟨by rfl, ?_⟩) trivial ?_
      rotate_left
      · (intro W _; go_simp; try with_reducible rfl)
      (try simp only [Act.put])
      refine wpAnyH_take (i := 4) (oi := _) (v := ?_) rfl (by kernel_rfl) (by kernel_rfl) (by kernel_rfl) (fun _ _ _ h => h) (Or.inl ⟨by rfl, ?_⟩) trivial ?_
      rotate_left
      · (intro W _; go_simp; try with_reducible rfl)
      (try simp only [Act.put])
      refine wpAnyH_take (i := 5) (oi := _) (v := ?_) rfl (by kernel_rfl) (by kernel_rfl) (by kernel_rfl) (fun _ _ _ h => h) (Or.inl ⟨by rfl, ?_⟩) trivial ?_
      rotate_left
      · (intro W _; go_simp; try with_reducible rfl)
      (try simp only [Act.put])
      refine wpAnyH_take (i := 6) (oi := _) (v := ?_) rfl (by kernel_rfl) (by kernel_rfl) (by kernel_rfl) (fun _ _ _ h => h) (Or.inl ⟨by rfl, ?_⟩) trivial ?_
      rotate_left
      · (intro W _; go_simp; try with_reducible rfl)
      (try simp only [Act.put])
      refine wpAnyH_take (i := 7) (oi := _) (v := ?_) rfl (by kernel_rfl) (by kernel_rfl) (by kernel_rfl) (fun _ _ _ h => h) (Or.inl ⟨by rfl, ?_⟩) trivial ?_
      rotate_left
      · (intro W _; go_simp; try with_reducible rfl)
      (try simp only [Act.put])
      refine wpAnyH_take (i := 8) (oi := _) (v := ?_) rfl (by kernel_rfl) (by kernel_rfl) (by kernel_rfl) (fun _ _ _ h => h) (Or.inl ⟨by rfl, ?_⟩) trivial ?_
      rotate_left
      · (intro W _; go_simp; try with_reducible rfl)
      (try simp only [Act.put])
      refine wpAnyH_take (i := 10) (oi := _) (v := ?_) rfl (by kernel_rfl) (by kernel_rfl) (by kernel_rfl) (fun _ _ _ h => h) (Or.inl ⟨by rfl, ?_⟩) trivial ?_
      rotate_left
      · (intro W _; go_simp; try with_reducible rfl)
      (try simp only [Act.put])
      refine wpAnyH_take (i := 11) (oi := _) (v := ?_) rfl (by kernel_rfl) (by kernel_rfl) (by kernel_rfl) (fun _ _ _ h => h) (Or.inl ⟨by rfl, ?_⟩) trivial ?_
      rotate_left
      · (intro W _; go_simp; try with_reducible rfl)
      (try simp only [Act.put])
      refine wpAnyH_take (i := 12) (oi := _) (v := ?_) rfl (by kernel_rfl) (by kernel_rfl) (by kernel_rfl) (fun _ _ _ h => h) (Or.inl ⟨by rfl, ?_⟩) trivial ?_
      rotate_left
      · (intro W _; go_simp; try with_reducible rfl)
      (try simp only [Act.put])
      refine wpAnyH_ready (rs := [9]) (by kernel_rfl) (by simp) ?_
      refine AllReadyH.cons (o := _) rfl (fun K hK => ?_) AllReadyH.nil
      go_simp
      refine (join_any (F.take T) O _ _ _ ((bs_pre O6.out htl).grew (Drew.grew ⟨1, rfl⟩)) ((HBO.out _ (by first | exact .inr (.inr rfl) | exact .inr (.inr (by rw [if_neg (by omega)])) | exact .inr (.inl ⟨trivial, by rw [Nat.sub_self]⟩))).grew (Drew.grew ⟨1, rfl⟩)) (by simp; omega)).mono ?_
      rintro x w4 ⟨v4, rfl, o4, g4⟩
      rw [← HJ.out] at o4
      obtain ⟨a4, c4, rfl, hq4, -⟩ := (Sl.of_own o4).open
      have O4 := Lib.hid o4
      clear o4
      go_simp
      refine hK.out _ _ trivial (fun _ => ?_)
      clear hK K
      (try simp only [Act.put, List.setIfInBounds_toArray, List.set_cons_zero, List.set_cons_succ])
      refine wpAnyH_ready (rs := [13]) (by kernel_rfl) (by simp) ?_
      refine AllReadyH.cons (o := _) rfl (fun K hK => ?_) AllReadyH.nil
      go_simp
      refine (join_any J (F.drop T) _ _ _ (Sl.of_own O4.out) ((bs_suf O6.out htl _ (by first | exact .inr rfl | exact .inl ⟨by omega, by rw [Nat.sub_self]; rfl⟩ | exact .inl ⟨by omega, by rw [Nat.sub_self, show b.length - (p + 0) = 0 by omega]; rfl⟩ | exact .inl ⟨by omega, by simp only [Value.slice.injEq, true_and]; omega⟩)).grew ((Drew.grew ⟨1, rfl⟩ : Grew w6 w6.drew).trans g4)) (by simp; omega)).mono ?_
      rintro x w2 ⟨v2, rfl, o2, g2⟩
      rw [← HM.out] at o2
      obtain ⟨a2, c2, rfl, hq2, -⟩ := (Sl.of_own o2).open
      have O2 := Lib.hid o2
      clear o2
      go_simp
      refine hK.out _ _ trivial (fun _ => ?_)
      clear hK K
      (try simp only [Act.put, List.setIfInBounds_toArray, List.set_cons_zero, List.set_cons_succ])
      refine wpAnyH_tail 14 rfl (by kernel_rfl) (by kernel_rfl) (fun _ => trivial) ?_
      simp only [List.drop_succ_cons, List.drop_zero]
      repeat (quiet_step (fail))
      refine wpQuiet_nil ?_
      rintro _ ⟨nq, rfl⟩
      have hm2 : min (L.length : Int) 1048576 ≤ (c2 : Int) := by omega
      go_wp2
      go_ret
      exact ⟨_, rfl, bs_min ((Sl.of_own O2.out).grew (Drew.grew ⟨_, rfl⟩)), (((G5.trans (Drew.grew ⟨1, rfl⟩ : Grew w6 w6.drew)).trans g4).trans g2).trans (Drew.grew ⟨_, rfl⟩)⟩
    · obtain rfl : T = c5 := hcT.symm
      go_wp2_with fail
      refine wp_region_held_drew (S := fun _ => True) (by kernel_rfl) trivial (fun _ => ?_)
      refine wpAnyH_take (i := 0) (oi := _) (v := ?_) rfl (by kernel_rfl) (by kernel_rfl) (by kernel_rfl) (fun _ _ _ h => h) (Or.inl ⟨by rfl, ?_⟩) trivial ?_
      rotate_left
      · (intro W _; go_simp; try with_reducible rfl)
      (try simp only [Act.put, List.setIfInBounds_toArray])
      refine wpAnyH_take (i := 1) (oi := _) (v := ?_) rfl (by kernel_rfl) (by kernel_rfl) (by kernel_rfl) (fun _ _ _ h => h) (Or.inl ⟨by rfl, ?_⟩) trivial ?_
      rotate_left
      · (intro W _; go_simp; try with_reducible rfl)
      (try simp only [Act.put])
      refine wpAnyH_take (i := 2) (oi := _) (v := ?_) rfl (by kernel_rfl) (by kernel_rfl) (by kernel_rfl) (fun _ _ _ h => h) (Or.inl ⟨by rfl, ?_⟩) trivial ?_
      rotate_left
      · (intro W _; go_simp; try with_reducible rfl)
      (try simp only [Act.put])
      refine wpAnyH_take (i := 3) (oi := _) (v := ?_) rfl (by kernel_rfl) (by kernel_rfl) (by kernel_rfl) (fun _ _ _ h => h) (Or.inl ⟨by rfl, ?_⟩) trivial ?_
      rotate_left
      · (intro W _; go_simp; try with_reducible rfl)
      (try simp only [Act.put])
      refine wpAnyH_take (i := 4) (oi := _) (v := ?_) rfl (by kernel_rfl) (by kernel_rfl) (by kernel_rfl) (fun _ _ _ h => h) (Or.inl ⟨by rfl, ?_⟩) trivial ?_
      rotate_left
      · (intro W _; go_simp; try with_reducible rfl)
      (try simp only [Act.put])
      refine wpAnyH_take (i := 5) (oi := _) (v := ?_) rfl (by kernel_rfl) (by kernel_rfl) (by kernel_rfl) (fun _ _ _ h => h) (Or.inl ⟨by rfl, ?_⟩) trivial ?_
      rotate_left
      · (intro W _; go_simp; try with_reducible rfl)
      (try simp only [Act.put])
      refine wpAnyH_take (i := 6) (oi := _) (v := ?_) rfl (by kernel_rfl) (by kernel_rfl) (by kernel_rfl) (fun _ _ _ h => h) (Or.inl ⟨by rfl, ?_⟩) trivial ?_
      rotate_left
      · (intro W _; go_simp; try with_reducible rfl)
      (try simp only [Act.put])
      refine wpAnyH_take (i := 7) (oi := _) (v := ?_) rfl (by kernel_rfl) (by kernel_rfl) (by kernel_rfl) (fun _ _ _ h => h) (Or.inl ⟨by rfl, ?_⟩) trivial ?_
      rotate_left
      · (intro W _; go_simp; try with_reducible rfl)
      (try simp only [Act.put])
      refine wpAnyH_take (i := 8) (oi := _) (v := ?_) rfl (by kernel_rfl) (by kernel_rfl) (by kernel_rfl) (fun _ _ _ h => h) (Or.inl ⟨by rfl, ?_⟩) trivial ?_
      rotate_left
      · (intro W _; go_simp; try with_reducible rfl)
      (try simp only [Act.put])
      refine wpAnyH_take (i := 10) (oi := _) (v := ?_) rfl (by kernel_rfl) (by kernel_rfl) (by kernel_rfl) (fun _ _ _ h => h) (Or.inl ⟨by rfl, ?_⟩) trivial ?_
      rotate_left
      · (intro W _; go_simp; try with_reducible rfl)
      (try simp only [Act.put])
      refine wpAnyH_take (i := 11) (oi := _) (v := ?_) rfl (by kernel_rfl) (by kernel_rfl) (by kernel_rfl) (fun _ _ _ h => h) (Or.inl ⟨by rfl, ?_⟩) trivial ?_
      rotate_left
      · (intro W _; go_simp; try with_reducible rfl)
      (try simp only [Act.put])
      refine wpAnyH_take (i := 12) (oi := _) (v := ?_) rfl (by kernel_rfl) (by kernel_rfl) (by kernel_rfl) (fun _ _ _ h => h) (Or.inl ⟨by rfl, ?_⟩) trivial ?_
      rotate_left
      · (intro W _; go_simp; try with_reducible rfl)
      (try simp only [Act.put])
      refine wpAnyH_ready (rs := [9]) (by kernel_rfl) (by simp) ?_
      refine AllReadyH.cons (o := _) rfl (fun K hK => ?_) AllReadyH.nil
      go_simp
      refine (join_any (F.take T) O _ _ _ ((bs_pre O6.out htl).grew (Drew.grew ⟨1, rfl⟩)) ((HBO.out _ (by first | exact .inr (.inr rfl) | exact .inr (.inr (by rw [if_neg (by omega)])) | exact .inr (.inl ⟨trivial, by rw [Nat.sub_self]⟩))).grew (Drew.grew ⟨1, rfl⟩)) (by simp; omega)).mono ?_
      rintro x w4 ⟨v4, rfl, o4, g4⟩
      rw [← HJ.out] at o4
      obtain ⟨a4, c4, rfl, hq4, -⟩ := (Sl.of_own o4).open
      have O4 := Lib.hid o4
      clear o4
      go_simp
      refine hK.out _ _ trivial (fun _ => ?_)
      clear hK K
      (try simp only [Act.put, List.setIfInBounds_toArray, List.set_cons_zero, List.set_cons_succ])
      refine wpAnyH_ready (rs := [13]) (by kernel_rfl) (by simp) ?_
      refine AllReadyH.cons (o := _) rfl (fun K hK => ?_) AllReadyH.nil
      go_simp
      refine (join_any J (F.drop T) _ _ _ (Sl.of_own O4.out) ((bs_suf O6.out htl _ (by first | exact .inr rfl | exact .inl ⟨by omega, by rw [Nat.sub_self]; rfl⟩ | exact .inl ⟨by omega, by rw [Nat.sub_self, show b.length - (p + 0) = 0 by omega]; rfl⟩ | exact .inl ⟨by omega, by simp only [Value.slice.injEq, true_and]; omega⟩)).grew ((Drew.grew ⟨1, rfl⟩ : Grew w6 w6.drew).trans g4)) (by simp; omega)).mono ?_
      rintro x w2 ⟨v2, rfl, o2, g2⟩
      rw [← HM.out] at o2
      obtain ⟨a2, c2, rfl, hq2, -⟩ := (Sl.of_own o2).open
      have O2 := Lib.hid o2
      clear o2
      go_simp
      refine hK.out _ _ trivial (fun _ => ?_)
      clear hK K
      (try simp only [Act.put, List.setIfInBounds_toArray, List.set_cons_zero, List.set_cons_succ])
      refine wpAnyH_tail 14 rfl (by kernel_rfl) (by kernel_rfl) (fun _ => trivial) ?_
      simp only [List.drop_succ_cons, List.drop_zero]
      repeat (quiet_step (fail))
      refine wpQuiet_nil ?_
      rintro _ ⟨nq, rfl⟩
      have hm2 : min (L.length : Int) 1048576 ≤ (c2 : Int) := by omega
      go_wp2
      go_ret
      exact ⟨_, rfl, bs_min ((Sl.of_own O2.out).grew (Drew.grew ⟨_, rfl⟩)), (((G5.trans (Drew.grew ⟨1, rfl⟩ : Grew w6 w6.drew)).trans g4).trans g2).trans (Drew.grew ⟨_, rfl⟩)⟩
  · obtain rfl : cb = p + c := hq
    go_enter Try.func11, Try.ntmps11
    go_wp2_with fail
    refine (K1.out _ _ (by omega)).mono ?_
    rintro x w1 ⟨rfl, rfl⟩
    go_wp2_with fail
    refine (K2.out _ _ (by omega)).mono ?_
    rintro x w1 ⟨rfl, rfl⟩
    go_wp2_with fail
    refine wp_region_held_drew (S := fun _ => True) (by kernel_rfl) trivial (fun _ => ?_)
    refine wpAnyH_take (i := 0) (oi := _) (v := ?_) rfl (by kernel_rfl) (by kernel_rfl) (by kernel_rfl) (fun _ _ _ h => h) (Or.inl ⟨by rfl, ?_⟩) trivial ?_
    rotate_left
    · (intro W _; go_simp; try with_reducible rfl)
    (try simp only [Act.put, List.setIfInBounds_toArray])
    refine wpAnyH_take (i := 1) (oi := _) (v := ?_) rfl (by kernel_rfl) (by kernel_rfl) (by kernel_rfl) (fun _ _ _ h => h) (Or.inl ⟨by rfl, ?_⟩) trivial ?_
    rotate_left
    · (intro W _; go_simp; try with_reducible rfl)
    (try simp only [Act.put])
    refine wpAnyH_take (i := 2) (oi := _) (v := ?_) rfl (by kernel_rfl) (by kernel_rfl) (by kernel_rfl) (fun _ _ _ h => h) (Or.inl ⟨by rfl, ?_⟩) trivial ?_
    rotate_left
    · (intro W _; go_simp; try with_reducible rfl)
    (try simp only [Act.put])
    refine wpAnyH_take (i := 3) (oi := _) (v := ?_) rfl (by kernel_rfl) (by kernel_rfl) (by kernel_rfl) (fun _ _ _ h => h) (Or.inl ⟨by rfl, ?_⟩) trivial ?_
    rotate_left
    · (intro W _; go_simp; try with_reducible rfl)
    (try simp only [Act.put])
    refine wpAnyH_take (i := 4) (oi := _) (v := ?_) rfl (by kernel_rfl) (by kernel_rfl) (by kernel_rfl) (fun _ _ _ h => h) (Or.inl ⟨by rfl, ?_⟩) trivial ?_
    rotate_left
    · (intro W _; go_simp; try with_reducible rfl)
    (try simp only [Act.put])
    refine wpAnyH_take (i := 5) (oi := _) (v := ?_) rfl (by kernel_rfl) (by kernel_rfl) (by kernel_rfl) (fun _ _ _ h => h) (Or.inl ⟨by rfl, ?_⟩) trivial ?_
    rotate_left
    · (intro W _; go_simp; try with_reducible rfl)
    (try simp only [Act.put])
    refine wpAnyH_take (i := 6) (oi := _) (v := ?_) rfl (by kernel_rfl) (by kernel_rfl) (by kernel_rfl) (fun _ _ _ h => h) (Or.inl ⟨by rfl, ?_⟩) trivial ?_
    rotate_left
    · (intro W _; go_simp; try with_reducible rfl)
    (try simp only [Act.put])
    refine wpAnyH_take (i := 7) (oi := _) (v := ?_) rfl (by kernel_rfl) (by kernel_rfl) (by kernel_rfl) (fun _ _ _ h => h) (Or.inl ⟨by rfl, ?_⟩) trivial ?_
    rotate_left
    · (intro W _; go_simp; try with_reducible rfl)
    (try simp only [Act.put])
    refine wpAnyH_ready (rs := [8]) (by kernel_rfl) (by simp) ?_
    refine AllReadyH.cons (o := _) rfl (fun K hK => ?_) AllReadyH.nil
    go_simp
    refine (join_any (b.take p) (b.drop (p + c)) _ _ _ ((bs_pre HB.out hp).grew (Drew.grew ⟨1, rfl⟩)) ((bs_suf HB.out hc _ (by first | exact .inr rfl | exact .inl ⟨by omega, by rw [Nat.sub_self]; rfl⟩ | exact .inl ⟨by omega, by rw [Nat.sub_self, show b.length - (p + c) = 0 by omega]; rfl⟩ | exact .inl ⟨by omega, by simp only [Value.slice.injEq, true_and]; omega⟩)).grew (Drew.grew ⟨1, rfl⟩)) (by simp; omega)).mono ?_
    rintro x w5 ⟨v5, rfl, o5, g5⟩
    rw [← HFl.out] at o5
    obtain ⟨a5, c5, rfl, hq5, hq6, -⟩ := (Sl.of_own o5).open
    have O5 := Lib.hid (Sl.of_own o5)
    clear o5
    go_simp
    refine hK.out _ _ trivial (fun _ => ?_)
    clear hK K
    (try simp only [Act.put, List.setIfInBounds_toArray, List.set_cons_zero, List.set_cons_succ])
    refine wpAnyH_tail 9 rfl (by kernel_rfl) (by kernel_rfl) (fun _ => trivial) ?_
    simp only [List.drop_succ_cons, List.drop_zero]
    repeat (quiet_step (fail))
    refine wpQuiet_nil ?_
    rintro _ ⟨nq, rfl⟩
    have G5 := ((Drew.grew ⟨1, rfl⟩ : Grew w w.drew).trans g5).trans (Drew.grew ⟨nq, rfl⟩ : Grew w5 (w5.drewN nq))
    have O6 := Lib.hid (O5.out.grew (Drew.grew ⟨nq, rfl⟩ : Grew w5 (w5.drewN nq)))
    generalize w5.drewN nq = w6 at G5 O6 ⊢
    unfold maxLen at hq6
    have z10 : (T : Int) ≤ (F.length : Int) := by omega
    have z11 : (T : Int) ≤ (c5 : Int) := by omega
    go_wp2_with fail
    refine (K5.out _ _ (by omega)).mono ?_
    rintro x w7 ⟨rfl, rfl⟩
    have hbo := bs_piece (HB.out.grew G5) (i := p) (j := p + c) (by omega) hc
    rw [Nat.add_sub_cancel_left, ← HOw.out] at hbo
    have HBO := Lib.hid hbo
    clear hbo
    rcases Nat.decEq c5 T with hcT | hcT
    · go_wp2_with fail
      refine wp_region_held_drew (S := fun _ => True) (by kernel_rfl) trivial (fun _ => ?_)
      refine wpAnyH_take (i := 0) (oi := _) (v := ?_) rfl (by kernel_rfl) (by kernel_rfl) (by kernel_rfl) (fun _ _ _ h => h) (Or.inl ⟨by rfl, ?_⟩) trivial ?_
      rotate_left
      · (intro W _; go_simp; try with_reducible rfl)
      (try simp only [Act.put, List.setIfInBounds_toArray])
      refine wpAnyH_take (i := 1) (oi := _) (v := ?_) rfl (by kernel_rfl) (by kernel_rfl) (by kernel_rfl) (fun _ _ _ h => h) (Or.inl ⟨by rfl, ?_⟩) trivial ?_
      rotate_left
      · (intro W _; go_simp; try with_reducible rfl)
      (try simp only [Act.put])
      refine wpAnyH_take (i := 2) (oi := _) (v := ?_) rfl (by kernel_rfl) (by kernel_rfl) (by kernel_rfl) (fun _ _ _ h => h) (Or.inl ⟨by rfl, ?_⟩) trivial ?_
      rotate_left
      · (intro W _; go_simp; try with_reducible rfl)
      (try simp only [Act.put])
      refine wpAnyH_take (i := 3) (oi := _) (v := ?_) rfl (by kernel_rfl) (by kernel_rfl) (by kernel_rfl) (fun _ _ _ h => h) (Or.inl ⟨by rfl, ?_⟩) trivial ?_
      rotate_left
      · (intro W _; go_simp; try with_reducible rfl)
      (try simp only [Act.put])
      refine wpAnyH_take (i := 4) (oi := _) (v := ?_) rfl (by kernel_rfl) (by kernel_rfl) (by kernel_rfl) (fun _ _ _ h => h) (Or.inl ⟨by rfl, ?_⟩) trivial ?_
      rotate_left
      · (intro W _; go_simp; try with_reducible rfl)
      (try simp only [Act.put])
      refine wpAnyH_take (i := 5) (oi := _) (v := ?_) rfl (by kernel_rfl) (by kernel_rfl) (by kernel_rfl) (fun _ _ _ h => h) (Or.inl ⟨by rfl, ?_⟩) trivial ?_
      rotate_left
      · (intro W _; go_simp; try with_reducible rfl)
      (try simp only [Act.put])
      refine wpAnyH_take (i := 6) (oi := _) (v := ?_) rfl (by kernel_rfl) (by kernel_rfl) (by kernel_rfl) (fun _ _ _ h => h) (Or.inl ⟨by rfl, ?_⟩) trivial ?_
      rotate_left
      · (intro W _; go_simp; try with_reducible rfl)
      (try simp only [Act.put])
      refine wpAnyH_take (i := 7) (oi := _) (v := ?_) rfl (by kernel_rfl) (by kernel_rfl) (by kernel_rfl) (fun _ _ _ h => h) (Or.inl ⟨by rfl, ?_⟩) trivial ?_
      rotate_left
      · (intro W _; go_simp; try with_reducible rfl)
      (try simp only [Act.put])
      refine wpAnyH_take (i := 8) (oi := _) (v := ?_) rfl (by kernel_rfl) (by kernel_rfl) (by kernel_rfl) (fun _ _ _ h => h) (Or.inl ⟨by rfl, ?_⟩) trivial ?_
      rotate_left
      · (intro W _; go_simp; try with_reducible rfl)
      (try simp only [Act.put])
      refine wpAnyH_take (i := 10) (oi := _) (v := ?_) rfl (by kernel_rfl) (by kernel_rfl) (by kernel_rfl) (fun _ _ _ h => h) (Or.inl ⟨by rfl, ?_⟩) trivial ?_
      rotate_left
      · (intro W _; go_simp; try with_reducible rfl)
      (try simp only [Act.put])
      refine wpAnyH_take (i := 11) (oi := _) (v := ?_) rfl (by kernel_rfl) (by kernel_rfl) (by kernel_rfl) (fun _ _ _ h => h) (Or.inl ⟨by rfl, ?_⟩) trivial ?_
      rotate_left
      · (intro W _; go_simp; try with_reducible rfl)
      (try simp only [Act.put])
      refine wpAnyH_take (i := 12) (oi := _) (v := ?_) rfl (by kernel_rfl) (by kernel_rfl) (by kernel_rfl) (fun _ _ _ h => h) (Or.inl ⟨by rfl, ?_⟩) trivial ?_
      rotate_left
      · (intro W _; go_simp; try with_reducible rfl)
      (try simp only [Act.put])
      refine wpAnyH_ready (rs := [9]) (by kernel_rfl) (by simp) ?_
      refine AllReadyH.cons (o := _) rfl (fun K hK => ?_) AllReadyH.nil
      go_simp
      refine (join_any (F.take T) O _ _ _ ((bs_pre O6.out htl).grew (Drew.grew ⟨1, rfl⟩)) ((HBO.out _ (by first | exact .inr (.inr rfl) | exact .inr (.inr (by rw [if_neg (by omega)])) | exact .inr (.inl ⟨trivial, by rw [Nat.sub_self]⟩))).grew (Drew.grew ⟨1, rfl⟩)) (by simp; omega)).mono ?_
      rintro x w4 ⟨v4, rfl, o4, g4⟩
      rw [← HJ.out] at o4
      obtain ⟨a4, c4, rfl, hq4, -⟩ := (Sl.of_own o4).open
      have O4 := Lib.hid o4
      clear o4
      go_simp
      refine hK.out _ _ trivial (fun _ => ?_)
      clear hK K
      (try simp only [Act.put, List.setIfInBounds_toArray, List.set_cons_zero, List.set_cons_succ])
      refine wpAnyH_ready (rs := [13]) (by kernel_rfl) (by simp) ?_
      refine AllReadyH.cons (o := _) rfl (fun K hK => ?_) AllReadyH.nil
      go_simp
      refine (join_any J (F.drop T) _ _ _ (Sl.of_own O4.out) ((bs_suf O6.out htl _ (by first | exact .inr rfl | exact .inl ⟨by omega, by rw [Nat.sub_self]; rfl⟩ | exact .inl ⟨by omega, by rw [Nat.sub_self, show b.length - (p + c) = 0 by omega]; rfl⟩ | exact .inl ⟨by omega, by simp only [Value.slice.injEq, true_and]; omega⟩)).grew ((Drew.grew ⟨1, rfl⟩ : Grew w6 w6.drew).trans g4)) (by simp; omega)).mono ?_
      rintro x w2 ⟨v2, rfl, o2, g2⟩
      rw [← HM.out] at o2
      obtain ⟨a2, c2, rfl, hq2, -⟩ := (Sl.of_own o2).open
      have O2 := Lib.hid o2
      clear o2
      go_simp
      refine hK.out _ _ trivial (fun _ => ?_)
      clear hK K
      (try simp only [Act.put, List.setIfInBounds_toArray, List.set_cons_zero, List.set_cons_succ])
      refine wpAnyH_tail 14 rfl (by kernel_rfl) (by kernel_rfl) (fun _ => trivial) ?_
      simp only [List.drop_succ_cons, List.drop_zero]
      repeat (quiet_step (fail))
      refine wpQuiet_nil ?_
      rintro _ ⟨nq, rfl⟩
      have hm2 : min (L.length : Int) 1048576 ≤ (c2 : Int) := by omega
      go_wp2
      go_ret
      exact ⟨_, rfl, bs_min ((Sl.of_own O2.out).grew (Drew.grew ⟨_, rfl⟩)), (((G5.trans (Drew.grew ⟨1, rfl⟩ : Grew w6 w6.drew)).trans g4).trans g2).trans (Drew.grew ⟨_, rfl⟩)⟩
    · obtain rfl : T = c5 := hcT.symm
      go_wp2_with fail
      refine wp_region_held_drew (S := fun _ => True) (by kernel_rfl) trivial (fun _ => ?_)
      refine wpAnyH_take (i := 0) (oi := _) (v := ?_) rfl (by kernel_rfl) (by kernel_rfl) (by kernel_rfl) (fun _ _ _ h => h) (Or.inl ⟨by rfl, ?_⟩) trivial ?_
      rotate_left
      · (intro W _; go_simp; try with_reducible rfl)
      (try simp only [Act.put, List.setIfInBounds_toArray])
      refine wpAnyH_take (i := 1) (oi := _) (v := ?_) rfl (by kernel_rfl) (by kernel_rfl) (by kernel_rfl) (fun _ _ _ h => h) (Or.inl ⟨by rfl, ?_⟩) trivial ?_
      rotate_left
      · (intro W _; go_simp; try with_reducible rfl)
      (try simp only [Act.put])
      refine wpAnyH_take (i := 2) (oi := _) (v := ?_) rfl (by kernel_rfl) (by kernel_rfl) (by kernel_rfl) (fun _ _ _ h => h) (Or.inl ⟨by rfl, ?_⟩) trivial ?_
      rotate_left
      · (intro W _; go_simp; try with_reducible rfl)
      (try simp only [Act.put])
      refine wpAnyH_take (i := 3) (oi := _) (v := ?_) rfl (by kernel_rfl) (by kernel_rfl) (by kernel_rfl) (fun _ _ _ h => h) (Or.inl ⟨by rfl, ?_⟩) trivial ?_
      rotate_left
      · (intro W _; go_simp; try with_reducible rfl)
      (try simp only [Act.put])
      refine wpAnyH_take (i := 4) (oi := _) (v := ?_) rfl (by kernel_rfl) (by kernel_rfl) (by kernel_rfl) (fun _ _ _ h => h) (Or.inl ⟨by rfl, ?_⟩) trivial ?_
      rotate_left
      · (intro W _; go_simp; try with_reducible rfl)
      (try simp only [Act.put])
      refine wpAnyH_take (i := 5) (oi := _) (v := ?_) rfl (by kernel_rfl) (by kernel_rfl) (by kernel_rfl) (fun _ _ _ h => h) (Or.inl ⟨by rfl, ?_⟩) trivial ?_
      rotate_left
      · (intro W _; go_simp; try with_reducible rfl)
      (try simp only [Act.put])
      refine wpAnyH_take (i := 6) (oi := _) (v := ?_) rfl (by kernel_rfl) (by kernel_rfl) (by kernel_rfl) (fun _ _ _ h => h) (Or.inl ⟨by rfl, ?_⟩) trivial ?_
      rotate_left
      · (intro W _; go_simp; try with_reducible rfl)
      (try simp only [Act.put])
      refine wpAnyH_take (i := 7) (oi := _) (v := ?_) rfl (by kernel_rfl) (by kernel_rfl) (by kernel_rfl) (fun _ _ _ h => h) (Or.inl ⟨by rfl, ?_⟩) trivial ?_
      rotate_left
      · (intro W _; go_simp; try with_reducible rfl)
      (try simp only [Act.put])
      refine wpAnyH_take (i := 8) (oi := _) (v := ?_) rfl (by kernel_rfl) (by kernel_rfl) (by kernel_rfl) (fun _ _ _ h => h) (Or.inl ⟨by rfl, ?_⟩) trivial ?_
      rotate_left
      · (intro W _; go_simp; try with_reducible rfl)
      (try simp only [Act.put])
      refine wpAnyH_take (i := 10) (oi := _) (v := ?_) rfl (by kernel_rfl) (by kernel_rfl) (by kernel_rfl) (fun _ _ _ h => h) (Or.inl ⟨by rfl, ?_⟩) trivial ?_
      rotate_left
      · (intro W _; go_simp; try with_reducible rfl)
      (try simp only [Act.put])
      refine wpAnyH_take (i := 11) (oi := _) (v := ?_) rfl (by kernel_rfl) (by kernel_rfl) (by kernel_rfl) (fun _ _ _ h => h) (Or.inl ⟨by rfl, ?_⟩) trivial ?_
      rotate_left
      · (intro W _; go_simp; try with_reducible rfl)
      (try simp only [Act.put])
      refine wpAnyH_take (i := 12) (oi := _) (v := ?_) rfl (by kernel_rfl) (by kernel_rfl) (by kernel_rfl) (fun _ _ _ h => h) (Or.inl ⟨by rfl, ?_⟩) trivial ?_
      rotate_left
      · (intro W _; go_simp; try with_reducible rfl)
      (try simp only [Act.put])
      refine wpAnyH_ready (rs := [9]) (by kernel_rfl) (by simp) ?_
      refine AllReadyH.cons (o := _) rfl (fun K hK => ?_) AllReadyH.nil
      go_simp
      refine (join_any (F.take T) O _ _ _ ((bs_pre O6.out htl).grew (Drew.grew ⟨1, rfl⟩)) ((HBO.out _ (by first | exact .inr (.inr rfl) | exact .inr (.inr (by rw [if_neg (by omega)])) | exact .inr (.inl ⟨trivial, by rw [Nat.sub_self]⟩))).grew (Drew.grew ⟨1, rfl⟩)) (by simp; omega)).mono ?_
      rintro x w4 ⟨v4, rfl, o4, g4⟩
      rw [← HJ.out] at o4
      obtain ⟨a4, c4, rfl, hq4, -⟩ := (Sl.of_own o4).open
      have O4 := Lib.hid o4
      clear o4
      go_simp
      refine hK.out _ _ trivial (fun _ => ?_)
      clear hK K
      (try simp only [Act.put, List.setIfInBounds_toArray, List.set_cons_zero, List.set_cons_succ])
      refine wpAnyH_ready (rs := [13]) (by kernel_rfl) (by simp) ?_
      refine AllReadyH.cons (o := _) rfl (fun K hK => ?_) AllReadyH.nil
      go_simp
      refine (join_any J (F.drop T) _ _ _ (Sl.of_own O4.out) ((bs_suf O6.out htl _ (by first | exact .inr rfl | exact .inl ⟨by omega, by rw [Nat.sub_self]; rfl⟩ | exact .inl ⟨by omega, by rw [Nat.sub_self, show b.length - (p + c) = 0 by omega]; rfl⟩ | exact .inl ⟨by omega, by simp only [Value.slice.injEq, true_and]; omega⟩)).grew ((Drew.grew ⟨1, rfl⟩ : Grew w6 w6.drew).trans g4)) (by simp; omega)).mono ?_
      rintro x w2 ⟨v2, rfl, o2, g2⟩
      rw [← HM.out] at o2
      obtain ⟨a2, c2, rfl, hq2, -⟩ := (Sl.of_own o2).open
      have O2 := Lib.hid o2
      clear o2
      go_simp
      refine hK.out _ _ trivial (fun _ => ?_)
      clear hK K
      (try simp only [Act.put, List.setIfInBounds_toArray, List.set_cons_zero, List.set_cons_succ])
      refine wpAnyH_tail 14 rfl (by kernel_rfl) (by kernel_rfl) (fun _ => trivial) ?_
      simp only [List.drop_succ_cons, List.drop_zero]
      repeat (quiet_step (fail))
      refine wpQuiet_nil ?_
      rintro _ ⟨nq, rfl⟩
      have hm2 : min (L.length : Int) 1048576 ≤ (c2 : Int) := by omega
      go_wp2
      go_ret
      exact ⟨_, rfl, bs_min ((Sl.of_own O2.out).grew (Drew.grew ⟨_, rfl⟩)), (((G5.trans (Drew.grew ⟨1, rfl⟩ : Grew w6 w6.drew)).trans g4).trans g2).trans (Drew.grew ⟨_, rfl⟩)⟩
  · go_enter Try.func11, Try.ntmps11
    go_wp2_with fail
    refine (K1.out _ _ (by omega)).mono ?_
    rintro x w1 ⟨rfl, rfl⟩
    go_wp2_with fail
    refine (K2.out _ _ (by omega)).mono ?_
    rintro x w1 ⟨rfl, rfl⟩
    go_wp2_with fail
    refine wp_region_held_drew (S := fun _ => True) (by kernel_rfl) trivial (fun _ => ?_)
    refine wpAnyH_take (i := 0) (oi := _) (v := ?_) rfl (by kernel_rfl) (by kernel_rfl) (by kernel_rfl) (fun _ _ _ h => h) (Or.inl ⟨by rfl, ?_⟩) trivial ?_
    rotate_left
    · (intro W _; go_simp; try with_reducible rfl)
    (try simp only [Act.put, List.setIfInBounds_toArray])
    refine wpAnyH_take (i := 1) (oi := _) (v := ?_) rfl (by kernel_rfl) (by kernel_rfl) (by kernel_rfl) (fun _ _ _ h => h) (Or.inl ⟨by rfl, ?_⟩) trivial ?_
    rotate_left
    · (intro W _; go_simp; try with_reducible rfl)
    (try simp only [Act.put])
    refine wpAnyH_take (i := 2) (oi := _) (v := ?_) rfl (by kernel_rfl) (by kernel_rfl) (by kernel_rfl) (fun _ _ _ h => h) (Or.inl ⟨by rfl, ?_⟩) trivial ?_
    rotate_left
    · (intro W _; go_simp; try with_reducible rfl)
    (try simp only [Act.put])
    refine wpAnyH_take (i := 3) (oi := _) (v := ?_) rfl (by kernel_rfl) (by kernel_rfl) (by kernel_rfl) (fun _ _ _ h => h) (Or.inl ⟨by rfl, ?_⟩) trivial ?_
    rotate_left
    · (intro W _; go_simp; try with_reducible rfl)
    (try simp only [Act.put])
    refine wpAnyH_take (i := 4) (oi := _) (v := ?_) rfl (by kernel_rfl) (by kernel_rfl) (by kernel_rfl) (fun _ _ _ h => h) (Or.inl ⟨by rfl, ?_⟩) trivial ?_
    rotate_left
    · (intro W _; go_simp; try with_reducible rfl)
    (try simp only [Act.put])
    refine wpAnyH_take (i := 5) (oi := _) (v := ?_) rfl (by kernel_rfl) (by kernel_rfl) (by kernel_rfl) (fun _ _ _ h => h) (Or.inl ⟨by rfl, ?_⟩) trivial ?_
    rotate_left
    · (intro W _; go_simp; try with_reducible rfl)
    (try simp only [Act.put])
    refine wpAnyH_take (i := 6) (oi := _) (v := ?_) rfl (by kernel_rfl) (by kernel_rfl) (by kernel_rfl) (fun _ _ _ h => h) (Or.inl ⟨by rfl, ?_⟩) trivial ?_
    rotate_left
    · (intro W _; go_simp; try with_reducible rfl)
    (try simp only [Act.put])
    refine wpAnyH_take (i := 7) (oi := _) (v := ?_) rfl (by kernel_rfl) (by kernel_rfl) (by kernel_rfl) (fun _ _ _ h => h) (Or.inl ⟨by rfl, ?_⟩) trivial ?_
    rotate_left
    · (intro W _; go_simp; try with_reducible rfl)
    (try simp only [Act.put])
    refine wpAnyH_ready (rs := [8]) (by kernel_rfl) (by simp) ?_
    refine AllReadyH.cons (o := _) rfl (fun K hK => ?_) AllReadyH.nil
    go_simp
    refine (join_any (b.take p) (b.drop (p + c)) _ _ _ ((bs_pre HB.out hp).grew (Drew.grew ⟨1, rfl⟩)) ((bs_suf HB.out hc _ (by first | exact .inr rfl | exact .inl ⟨by omega, by rw [Nat.sub_self]; rfl⟩ | exact .inl ⟨by omega, by rw [Nat.sub_self, show b.length - (p + c) = 0 by omega]; rfl⟩ | exact .inl ⟨by omega, by simp only [Value.slice.injEq, true_and]; omega⟩)).grew (Drew.grew ⟨1, rfl⟩)) (by simp; omega)).mono ?_
    rintro x w5 ⟨v5, rfl, o5, g5⟩
    rw [← HFl.out] at o5
    obtain ⟨a5, c5, rfl, hq5, hq6, -⟩ := (Sl.of_own o5).open
    have O5 := Lib.hid (Sl.of_own o5)
    clear o5
    go_simp
    refine hK.out _ _ trivial (fun _ => ?_)
    clear hK K
    (try simp only [Act.put, List.setIfInBounds_toArray, List.set_cons_zero, List.set_cons_succ])
    refine wpAnyH_tail 9 rfl (by kernel_rfl) (by kernel_rfl) (fun _ => trivial) ?_
    simp only [List.drop_succ_cons, List.drop_zero]
    repeat (quiet_step (fail))
    refine wpQuiet_nil ?_
    rintro _ ⟨nq, rfl⟩
    have G5 := ((Drew.grew ⟨1, rfl⟩ : Grew w w.drew).trans g5).trans (Drew.grew ⟨nq, rfl⟩ : Grew w5 (w5.drewN nq))
    have O6 := Lib.hid (O5.out.grew (Drew.grew ⟨nq, rfl⟩ : Grew w5 (w5.drewN nq)))
    generalize w5.drewN nq = w6 at G5 O6 ⊢
    unfold maxLen at hq6
    have z10 : (T : Int) ≤ (F.length : Int) := by omega
    have z11 : (T : Int) ≤ (c5 : Int) := by omega
    go_wp2_with fail
    refine (K5.out _ _ (by omega)).mono ?_
    rintro x w7 ⟨rfl, rfl⟩
    have hbo := bs_piece (HB.out.grew G5) (i := p) (j := p + c) (by omega) hc
    rw [Nat.add_sub_cancel_left, ← HOw.out] at hbo
    have HBO := Lib.hid hbo
    clear hbo
    rcases Nat.decEq c5 T with hcT | hcT
    · go_wp2_with fail
      refine wp_region_held_drew (S := fun _ => True) (by kernel_rfl) trivial (fun _ => ?_)
      refine wpAnyH_take (i := 0) (oi := _) (v := ?_) rfl (by kernel_rfl) (by kernel_rfl) (by kernel_rfl) (fun _ _ _ h => h) (Or.inl ⟨by rfl, ?_⟩) trivial ?_
      rotate_left
      · (intro W _; go_simp; try with_reducible rfl)
      (try simp only [Act.put, List.setIfInBounds_toArray])
      refine wpAnyH_take (i := 1) (oi := _) (v := ?_) rfl (by kernel_rfl) (by kernel_rfl) (by kernel_rfl) (fun _ _ _ h => h) (Or.inl ⟨by rfl, ?_⟩) trivial ?_
      rotate_left
      · (intro W _; go_simp; try with_reducible rfl)
      (try simp only [Act.put])
      refine wpAnyH_take (i := 2) (oi := _) (v := ?_) rfl (by kernel_rfl) (by kernel_rfl) (by kernel_rfl) (fun _ _ _ h => h) (Or.inl ⟨by rfl, ?_⟩) trivial ?_
      rotate_left
      · (intro W _; go_simp; try with_reducible rfl)
      (try simp only [Act.put])
      refine wpAnyH_take (i := 3) (oi := _) (v := ?_) rfl (by kernel_rfl) (by kernel_rfl) (by kernel_rfl) (fun _ _ _ h => h) (Or.inl ⟨by rfl, ?_⟩) trivial ?_
      rotate_left
      · (intro W _; go_simp; try with_reducible rfl)
      (try simp only [Act.put])
      refine wpAnyH_take (i := 4) (oi := _) (v := ?_) rfl (by kernel_rfl) (by kernel_rfl) (by kernel_rfl) (fun _ _ _ h => h) (Or.inl ⟨by rfl, ?_⟩) trivial ?_
      rotate_left
      · (intro W _; go_simp; try with_reducible rfl)
      (try simp only [Act.put])
      refine wpAnyH_take (i := 5) (oi := _) (v := ?_) rfl (by kernel_rfl) (by kernel_rfl) (by kernel_rfl) (fun _ _ _ h => h) (Or.inl ⟨by rfl, ?_⟩) trivial ?_
      rotate_left
      · (intro W _; go_simp; try with_reducible rfl)
      (try simp only [Act.put])
      refine wpAnyH_take (i := 6) (oi := _) (v := ?_) rfl (by kernel_rfl) (by kernel_rfl) (by kernel_rfl) (fun _ _ _ h => h) (Or.inl ⟨by rfl, ?_⟩) trivial ?_
      rotate_left
      · (intro W _; go_simp; try with_reducible rfl)
      (try simp only [Act.put])
      refine wpAnyH_take (i := 7) (oi := _) (v := ?_) rfl (by kernel_rfl) (by kernel_rfl) (by kernel_rfl) (fun _ _ _ h => h) (Or.inl ⟨by rfl, ?_⟩) trivial ?_
      rotate_left
      · (intro W _; go_simp; try with_reducible rfl)
      (try simp only [Act.put])
      refine wpAnyH_take (i := 8) (oi := _) (v := ?_) rfl (by kernel_rfl) (by kernel_rfl) (by kernel_rfl) (fun _ _ _ h => h) (Or.inl ⟨by rfl, ?_⟩) trivial ?_
      rotate_left
      · (intro W _; go_simp; try with_reducible rfl)
      (try simp only [Act.put])
      refine wpAnyH_take (i := 10) (oi := _) (v := ?_) rfl (by kernel_rfl) (by kernel_rfl) (by kernel_rfl) (fun _ _ _ h => h) (Or.inl ⟨by rfl, ?_⟩) trivial ?_
      rotate_left
      · (intro W _; go_simp; try with_reducible rfl)
      (try simp only [Act.put])
      refine wpAnyH_take (i := 11) (oi := _) (v := ?_) rfl (by kernel_rfl) (by kernel_rfl) (by kernel_rfl) (fun _ _ _ h => h) (Or.inl ⟨by rfl, ?_⟩) trivial ?_
      rotate_left
      · (intro W _; go_simp; try with_reducible rfl)
      (try simp only [Act.put])
      refine wpAnyH_take (i := 12) (oi := _) (v := ?_) rfl (by kernel_rfl) (by kernel_rfl) (by kernel_rfl) (fun _ _ _ h => h) (Or.inl ⟨by rfl, ?_⟩) trivial ?_
      rotate_left
      · (intro W _; go_simp; try with_reducible rfl)
      (try simp only [Act.put])
      refine wpAnyH_ready (rs := [9]) (by kernel_rfl) (by simp) ?_
      refine AllReadyH.cons (o := _) rfl (fun K hK => ?_) AllReadyH.nil
      go_simp
      refine (join_any (F.take T) O _ _ _ ((bs_pre O6.out htl).grew (Drew.grew ⟨1, rfl⟩)) ((HBO.out _ (by first | exact .inr (.inr rfl) | exact .inr (.inr (by rw [if_neg (by omega)])) | exact .inr (.inl ⟨trivial, by rw [Nat.sub_self]⟩))).grew (Drew.grew ⟨1, rfl⟩)) (by simp; omega)).mono ?_
      rintro x w4 ⟨v4, rfl, o4, g4⟩
      rw [← HJ.out] at o4
      obtain ⟨a4, c4, rfl, hq4, -⟩ := (Sl.of_own o4).open
      have O4 := Lib.hid o4
      clear o4
      go_simp
      refine hK.out _ _ trivial (fun _ => ?_)
      clear hK K
      (try simp only [Act.put, List.setIfInBounds_toArray, List.set_cons_zero, List.set_cons_succ])
      refine wpAnyH_ready (rs := [13]) (by kernel_rfl) (by simp) ?_
      refine AllReadyH.cons (o := _) rfl (fun K hK => ?_) AllReadyH.nil
      go_simp
      refine (join_any J (F.drop T) _ _ _ (Sl.of_own O4.out) ((bs_suf O6.out htl _ (by first | exact .inr rfl | exact .inl ⟨by omega, by rw [Nat.sub_self]; rfl⟩ | exact .inl ⟨by omega, by rw [Nat.sub_self, show b.length - (p + c) = 0 by omega]; rfl⟩ | exact .inl ⟨by omega, by simp only [Value.slice.injEq, true_and]; omega⟩)).grew ((Drew.grew ⟨1, rfl⟩ : Grew w6 w6.drew).trans g4)) (by simp; omega)).mono ?_
      rintro x w2 ⟨v2, rfl, o2, g2⟩
      rw [← HM.out] at o2
      obtain ⟨a2, c2, rfl, hq2, -⟩ := (Sl.of_own o2).open
      have O2 := Lib.hid o2
      clear o2
      go_simp
      refine hK.out _ _ trivial (fun _ => ?_)
      clear hK K
      (try simp only [Act.put, List.setIfInBounds_toArray, List.set_cons_zero, List.set_cons_succ])
      refine wpAnyH_tail 14 rfl (by kernel_rfl) (by kernel_rfl) (fun _ => trivial) ?_
      simp only [List.drop_succ_cons, List.drop_zero]
      repeat (quiet_step (fail))
      refine wpQuiet_nil ?_
      rintro _ ⟨nq, rfl⟩
      have hm2 : min (L.length : Int) 1048576 ≤ (c2 : Int) := by omega
      go_wp2
      go_ret
      exact ⟨_, rfl, bs_min ((Sl.of_own O2.out).grew (Drew.grew ⟨_, rfl⟩)), (((G5.trans (Drew.grew ⟨1, rfl⟩ : Grew w6 w6.drew)).trans g4).trans g2).trans (Drew.grew ⟨_, rfl⟩)⟩
    · obtain rfl : T = c5 := hcT.symm
      go_wp2_with fail
      refine wp_region_held_drew (S := fun _ => True) (by kernel_rfl) trivial (fun _ => ?_)
      refine wpAnyH_take (i := 0) (oi := _) (v := ?_) rfl (by kernel_rfl) (by kernel_rfl) (by kernel_rfl) (fun _ _ _ h => h) (Or.inl ⟨by rfl, ?_⟩) trivial ?_
      rotate_left
      · (intro W _; go_simp; try with_reducible rfl)
      (try simp only [Act.put, List.setIfInBounds_toArray])
      refine wpAnyH_take (i := 1) (oi := _) (v := ?_) rfl (by kernel_rfl) (by kernel_rfl) (by kernel_rfl) (fun _ _ _ h => h) (Or.inl ⟨by rfl, ?_⟩) trivial ?_
      rotate_left
      · (intro W _; go_simp; try with_reducible rfl)
      (try simp only [Act.put])
      refine wpAnyH_take (i := 2) (oi := _) (v := ?_) rfl (by kernel_rfl) (by kernel_rfl) (by kernel_rfl) (fun _ _ _ h => h) (Or.inl ⟨by rfl, ?_⟩) trivial ?_
      rotate_left
      · (intro W _; go_simp; try with_reducible rfl)
      (try simp only [Act.put])
      refine wpAnyH_take (i := 3) (oi := _) (v := ?_) rfl (by kernel_rfl) (by kernel_rfl) (by kernel_rfl) (fun _ _ _ h => h) (Or.inl ⟨by rfl, ?_⟩) trivial ?_
      rotate_left
      · (intro W _; go_simp; try with_reducible rfl)
      (try simp only [Act.put])
      refine wpAnyH_take (i := 4) (oi := _) (v := ?_) rfl (by kernel_rfl) (by kernel_rfl) (by kernel_rfl) (fun _ _ _ h => h) (Or.inl ⟨by rfl, ?_⟩) trivial ?_
      rotate_left
      · (intro W _; go_simp; try with_reducible rfl)
      (try simp only [Act.put])
      refine wpAnyH_take (i := 5) (oi := _) (v := ?_) rfl (by kernel_rfl) (by kernel_rfl) (by kernel_rfl) (fun _ _ _ h => h) (Or.inl ⟨by rfl, ?_⟩) trivial ?_
      rotate_left
      · (intro W _; go_simp; try with_reducible rfl)
      (try simp only [Act.put])
      refine wpAnyH_take (i := 6) (oi := _) (v := ?_) rfl (by kernel_rfl) (by kernel_rfl) (by kernel_rfl) (fun _ _ _ h => h) (Or.inl ⟨by rfl, ?_⟩) trivial ?_
      rotate_left
      · (intro W _; go_simp; try with_reducible rfl)
      (try simp only [Act.put])
      refine wpAnyH_take (i := 7) (oi := _) (v := ?_) rfl (by kernel_rfl) (by kernel_rfl) (by kernel_rfl) (fun _ _ _ h => h) (Or.inl ⟨by rfl, ?_⟩) trivial ?_
      rotate_left
      · (intro W _; go_simp; try with_reducible rfl)
      (try simp only [Act.put])
      refine wpAnyH_take (i := 8) (oi := _) (v := ?_) rfl (by kernel_rfl) (by kernel_rfl) (by kernel_rfl) (fun _ _ _ h => h) (Or.inl ⟨by rfl, ?_⟩) trivial ?_
      rotate_left
      · (intro W _; go_simp; try with_reducible rfl)
      (try simp only [Act.put])
      refine wpAnyH_take (i := 10) (oi := _) (v := ?_) rfl (by kernel_rfl) (by kernel_rfl) (by kernel_rfl) (fun _ _ _ h => h) (Or.inl ⟨by rfl, ?_⟩) trivial ?_
      rotate_left
      · (intro W _; go_simp; try with_reducible rfl)
      (try simp only [Act.put])
      refine wpAnyH_take (i := 11) (oi := _) (v := ?_) rfl (by kernel_rfl) (by kernel_rfl) (by kernel_rfl) (fun _ _ _ h => h) (Or.inl ⟨by rfl, ?_⟩) trivial ?_
      rotate_left
      · (intro W _; go_simp; try with_reducible rfl)
      (try simp only [Act.put])
      refine wpAnyH_take (i := 12) (oi := _) (v := ?_) rfl (by kernel_rfl) (by kernel_rfl) (by kernel_rfl) (fun _ _ _ h => h) (Or.inl ⟨by rfl, ?_⟩) trivial ?_
      rotate_left
      · (intro W _; go_simp; try with_reducible rfl)
      (try simp only [Act.put])
      refine wpAnyH_ready (rs := [9]) (by kernel_rfl) (by simp) ?_
      refine AllReadyH.cons (o := _) rfl (fun K hK => ?_) AllReadyH.nil
      go_simp
      refine (join_any (F.take T) O _ _ _ ((bs_pre O6.out htl).grew (Drew.grew ⟨1, rfl⟩)) ((HBO.out _ (by first | exact .inr (.inr rfl) | exact .inr (.inr (by rw [if_neg (by omega)])) | exact .inr (.inl ⟨trivial, by rw [Nat.sub_self]⟩))).grew (Drew.grew ⟨1, rfl⟩)) (by simp; omega)).mono ?_
      rintro x w4 ⟨v4, rfl, o4, g4⟩
      rw [← HJ.out] at o4
      obtain ⟨a4, c4, rfl, hq4, -⟩ := (Sl.of_own o4).open
      have O4 := Lib.hid o4
      clear o4
      go_simp
      refine hK.out _ _ trivial (fun _ => ?_)
      clear hK K
      (try simp only [Act.put, List.setIfInBounds_toArray, List.set_cons_zero, List.set_cons_succ])
      refine wpAnyH_ready (rs := [13]) (by kernel_rfl) (by simp) ?_
      refine AllReadyH.cons (o := _) rfl (fun K hK => ?_) AllReadyH.nil
      go_simp
      refine (join_any J (F.drop T) _ _ _ (Sl.of_own O4.out) ((bs_suf O6.out htl _ (by first | exact .inr rfl | exact .inl ⟨by omega, by rw [Nat.sub_self]; rfl⟩ | exact .inl ⟨by omega, by rw [Nat.sub_self, show b.length - (p + c) = 0 by omega]; rfl⟩ | exact .inl ⟨by omega, by simp only [Value.slice.injEq, true_and]; omega⟩)).grew ((Drew.grew ⟨1, rfl⟩ : Grew w6 w6.drew).trans g4)) (by simp; omega)).mono ?_
      rintro x w2 ⟨v2, rfl, o2, g2⟩
      rw [← HM.out] at o2
      obtain ⟨a2, c2, rfl, hq2, -⟩ := (Sl.of_own o2).open
      have O2 := Lib.hid o2
      clear o2
      go_simp
      refine hK.out _ _ trivial (fun _ => ?_)
      clear hK K
      (try simp only [Act.put, List.setIfInBounds_toArray, List.set_cons_zero, List.set_cons_succ])
      refine wpAnyH_tail 14 rfl (by kernel_rfl) (by kernel_rfl) (fun _ => trivial) ?_
      simp only [List.drop_succ_cons, List.drop_zero]
      repeat (quiet_step (fail))
      refine wpQuiet_nil ?_
      rintro _ ⟨nq, rfl⟩
      have hm2 : min (L.length : Int) 1048576 ≤ (c2 : Int) := by omega
      go_wp2
      go_ret
      exact ⟨_, rfl, bs_min ((Sl.of_own O2.out).grew (Drew.grew ⟨_, rfl⟩)), (((G5.trans (Drew.grew ⟨1, rfl⟩ : Grew w6 w6.drew)).trans g4).trans g2).trans (Drew.grew ⟨_, rfl⟩)⟩
theorem r16one_any (b : List UInt8) (e : Ed) (vb ve : Value) (w : World) (hb : Bs w vb b) (he : Bs w ve e.bytes) (hok : e.ok) (hlen : b.length ≤ 1048576) :
    Calls Try.prog 11 #[vb, .int .i64 e.kind, .int .i64 e.at', .int .i64 e.n, .int .i64 e.to, ve] w (OneP b e w) := by
  by_cases h1 : e.kind = 1
  · exact r16one_1 b e vb ve w hb he hok hlen h1
  by_cases h2 : e.kind = 2
  · exact r16one_2 b e vb ve w hb he hok hlen h2
  by_cases h3 : e.kind = 3
  · exact r16one_3 b e vb ve w hb he hok hlen h3
  by_cases h4 : e.kind = 4
  · exact r16one_4 b e vb ve w hb he hok hlen h4
  by_cases h5 : e.kind = 5
  · exact r16one_5 b e vb ve w hb he hok hlen h5
  exact r16one_0 b e vb ve w hb he hok hlen h1 h2 h3 h4 h5
end Go.Proofs.Ytoinndlialimcaa
