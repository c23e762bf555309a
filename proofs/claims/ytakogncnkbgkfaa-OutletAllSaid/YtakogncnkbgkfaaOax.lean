/- The law OutletAll returns true: its walk. -/
import Derived.Test.YtakogncnkbgkfaaOaw
namespace Go.Proofs.Ytakogncnkbgkfaa
open Go Go.RowKit Go.Shelf
attribute [local go_sem] Oper.semAt_some

theorem askD_pre (a : Ask5) (m : Nat) (b : List UInt8) : b <+: (askD a m b).1 := by
  unfold askD; split
  · exact List.prefix_refl _
  · exact putR_pre _ _ _
theorem askW_err (a : Ask5) : (askW a).2 < 4294967296 := by
  unfold askW
  split
  · simp
  split
  · exact tmake_err _ _
  split
  · simp
  split
  · simp
  split <;> simp
theorem askD_err (a : Ask5) (m : Nat) (b : List UInt8) : (askD a m b).2 < 4294967296 := by
  unfold askD; split
  · exact askW_err a
  · exact putR_err _ _ _

theorem oalls_any (base0 base p m : Nat) (F : Nat → Prop) (b : List UInt8) (v : Value) (bl : List Nat) (A : List Ask5) (W : World) (hE : AllEnv base0 v bl A W F) (hlen : bl.length = A.length) (h : OutO base F W p b m) (hl : A.length ≤ 40) (hB : ∀ a ∈ A, a.B.length ≤ 1000) :
    Calls Try.prog 19 #[.pointer (some ⟨p, 0, none⟩), v] W fun e w' => e = .returned (.int .i64 (allR (A.map fun a => askD a m) b).2) ∧ OutP 73 base F p (allR (A.map fun a => askD a m) b).1 m W w' := by
  have hf1 := enters_of Try.func18 (by kernel_rfl) rfl
  refine oall_any (AllEnv base0 v bl A) base p m F b (A.map fun a => askD a m) (fnV bl) v W hE h (by simp [fnV, hlen]) (by simp; omega) (fun W F hE => ?_) (fun i c f hc hf => ?_)
  · have := Sl.of_own hE.1
    rw [List.length_map, ← hlen]
    exact this
  · rw [fnV, List.getElem?_map, Option.map_eq_some_iff] at hc
    rw [List.getElem?_map, Option.map_eq_some_iff] at hf
    obtain ⟨k, hk, rfl⟩ := hc
    obtain ⟨a, ha, rfl⟩ := hf
    have hmem : a ∈ A := List.mem_of_getElem? ha
    refine .inr ⟨fun b => askD_pre _ _ _, fun b _ => askD_err _ _ _, _, _, rfl, hf1, fun F1 w1 b1 hE1 hO1 => ?_⟩
    refine (all1_any base F1 b1 p m k a w1 hO1 (hE1.2.2.1 a hmem) (hB a hmem) (hE1.2.2.2 a hmem) (hE1.2.1 i k a hk ha)).mono ?_
    rintro e w2 ⟨rfl, F2, q1, q2, q3⟩
    exact ⟨rfl, F2, q1, q2, q3, hE1.step hO1 hlen q2 q3⟩

set_option maxRecDepth 100000 in
set_option maxHeartbeats 8000000 in
theorem outlet_all (most : Int) (A1 A2 : List Ask5) (v1 v2 : Value) (w : World) (hs1 : Sl w v1 A1.length 5 (asks5V A1)) (hA1 : ∀ a ∈ A1, a.ok w) (hs2 : Sl w v2 A2.length 5 (asks5V A2)) (hA2 : ∀ a ∈ A2, a.ok w) :
    Calls Try.prog 4 #[.int .i64 most, v1, v2] w fun e w' => e = .returned (.bool true) ∧ Grew w w' := by
  obtain ⟨a1, c1, rfl, l1, l2, -, hcell1⟩ := hs1.open
  obtain ⟨a2, c2, rfl, l3, l4, -, hcell2⟩ := hs2.open
  unfold maxLen at l2 l4
  cases hsm2 : smallB A2 with
  | false =>
    have HSM := Lib.hid hsm2
    clear hsm2 hcell1 hcell2
    go_enter Try.func4, Try.ntmps4
    go_wp2_with fail
    refine (live5_any _).mono ?_
    rintro e w1 ⟨rfl, g1⟩
    go_wp2_with fail
    refine (small_any A2 _ _ (hs2.grew g1) (fun a ha => (hA2 a ha).grew g1)).mono ?_
    rintro e w2 ⟨rfl, rfl⟩
    rw [HSM.out]
    go_wp2
    go_ret
    exact ⟨rfl, g1⟩
  | true =>
  cases hsm1 : smallB A1 with
  | false =>
    have HSM := Lib.hid hsm2
    have HSM1 := Lib.hid hsm1
    clear hsm2 hsm1 hcell1 hcell2
    go_enter Try.func4, Try.ntmps4
    go_wp2_with fail
    refine (live5_any _).mono ?_
    rintro e w1 ⟨rfl, g1⟩
    go_wp2_with fail
    refine (small_any A2 _ _ (hs2.grew g1) (fun a ha => (hA2 a ha).grew g1)).mono ?_
    rintro e w2 ⟨rfl, rfl⟩
    rw [HSM.out]
    go_wp2_with fail
    refine (small_any A1 _ _ (hs1.grew g1) (fun a ha => (hA1 a ha).grew g1)).mono ?_
    rintro e w2 ⟨rfl, rfl⟩
    rw [HSM1.out]
    go_wp2
    go_ret
    exact ⟨rfl, g1⟩
  | true =>
  obtain ⟨hlen1, hBs1⟩ := small_len hsm1
  obtain ⟨hlen2, hBs2⟩ := small_len hsm2
  have HSM1 := Lib.hid hsm1
  have HSM2 := Lib.hid hsm2
  have HC1 := Lib.hid hcell1
  have HC2 := Lib.hid hcell2
  have HA1 := Lib.hid hA1
  have HA2 := Lib.hid hA2
  have HB1 := Lib.hid hBs1
  have HB2 := Lib.hid hBs2
  have HS1 := Lib.hid hs1
  have HS2 := Lib.hid hs2
  clear hsm1 hsm2 hcell1 hcell2 hA1 hA2 hBs1 hBs2 hs1 hs2
  go_enter Try.func4, Try.ntmps4
  go_wp2_with fail
  refine (live5_any _).mono ?_
  rintro e w1 ⟨rfl, g1⟩
  go_wp2_with fail
  refine (small_any A2 _ _ (HS2.out.grew g1) (fun a ha => (HA2.out a ha).grew g1)).mono ?_
  rintro e w2 ⟨rfl, rfl⟩
  rw [HSM2.out]
  go_wp2_with fail
  refine (small_any A1 _ _ (HS1.out.grew g1) (fun a ha => (HA1.out a ha).grew g1)).mono ?_
  rintro e w2 ⟨rfl, rfl⟩
  rw [HSM1.out]
  go_wp2_with fail
  refine (onew_any most _).mono ?_
  rintro e w2 ⟨rfl, o2, g2⟩
  go_wp2_with fail
  refine (onew_any most _).mono ?_
  rintro e w3 ⟨rfl, r3, g3⟩
  have o3 := o2.grew g3
  have G3 := Grew.trans (Grew.trans g1 g2) g3
  obtain ⟨m, hm⟩ : ∃ m, clampM most = m := ⟨_, rfl⟩
  rw [hm] at o3 r3
  have hpq : w1.heap.size < w2.heap.size := (o2.own _ rfl).2
  have hb1 : w.heap.size ≤ w1.heap.size := g1.size
  obtain ⟨p, hp⟩ : ∃ p, w1.heap.size = p := ⟨_, rfl⟩
  obtain ⟨q, hq⟩ : ∃ q, w2.heap.size = q := ⟨_, rfl⟩
  rw [hp, hq] at hpq
  rw [hp] at o3 hb1
  rw [hq] at r3
  have HP := Lib.hid hp
  have HQ := Lib.hid hq
  clear o2 g1 g2 g3 hm hp hq
  go_wp2_with fail
  rw [HP.out, HQ.out]
  go_loopw [9] (fun i wr => ∃ (k : Nat) (b : List UInt8) (Fo Fp : Nat → Prop), k ≤ A1.length ∧ i = .int .i64 k ∧ OutO p Fo wr p b m ∧ OutO q Fp wr q b m ∧ (∀ k, Fo k → ¬ Fp k) ∧ Grew w wr) (fun i _ => A1.length - (intOf i).toNat)
  case atStart => exact ⟨0, [], _, _, by omega, rfl, o3, r3, fun k h1 h2 => by omega, G3⟩
  case round =>
    obtain ⟨k, b, Fo, Fp, hk, rfl, hO, hP, hFF, hg⟩ := hrel
    clear o3 r3 G3
    by_cases hlt : k < A1.length
    · obtain ⟨b0, off, rfl, hc⟩ := HC1.out (by omega)
      have hok := HA1.out A1[k] (List.getElem_mem hlt)
      have hBl := HB1.out A1[k] (List.getElem_mem hlt)
      obtain ⟨x, hx⟩ : ∃ x, A1[k] = x := ⟨_, rfl⟩
      have hget : ∀ i, i < 5 → (asks5V A1)[k * 5 + i]? = (ask5V A1[k])[i]? := fun i hi => flat_get5 (f := ask5V) (k := 5) (fun _ => rfl) A1 k hlt i hi
      rw [hx] at hget hok hBl
      have hdo : ∀ g, Value.blk x.v = some g → x.B ≠ [] → ¬ Fo g := fun g hg' hn hF => by
        have h1 := bs_blk_lt hok.bs g hg' hn
        have h2 := (hO.own g hF).1
        omega
      have hdp : ∀ g, Value.blk x.v = some g → x.B ≠ [] → ¬ Fp g := fun g hg' hn hF => by
        have h1 := bs_blk_lt hok.bs g hg' hn
        have h2 := (hP.own g hF).1
        omega
      have hokW := hok.grew hg
      have kdo := fun W ho hk => do_any p Fo b p m x W ho hk hBl hdo
      have kdp := fun W ho hk => do_any q Fp b q m x W ho hk hBl hdp
      obtain ⟨⟨b', e'⟩, hD⟩ : ∃ r, askD x m b = r := ⟨_, rfl⟩
      simp only [hD] at kdo kdp
      obtain ⟨kd, n, num, wire, vb, B⟩ := x
      have hbb : Bs w vb B := hok.bs
      obtain ⟨av, cv, rfl⟩ := bs_len hbb
      have d0 := hc _ _ (hget 0 (by omega))
      have d1 := hc _ _ (hget 1 (by omega))
      have d2 := hc _ _ (hget 2 (by omega))
      have d3 := hc _ _ (hget 3 (by omega))
      have d4 := hc _ _ (hget 4 (by omega))
      simp only [Nat.add_zero, ← Nat.add_assoc] at d0 d1 d2 d3 d4
      have e0 := (below_ext hg) _ _ d0
      have e1 := (below_ext hg) _ _ d1
      have e2 := (below_ext hg) _ _ d2
      have e3 := (below_ext hg) _ _ d3
      have e4 := (below_ext hg) _ _ d4
      simp only [ask5V] at kdo kdp
      have KDO := Lib.hid kdo
      have KDP := Lib.hid kdp
      clear hget hc hx hD kdo kdp hdo hdp
      go_wp2
      refine wp_region_held_drew (S := fun W => W.cell? ⟨b0, off + k * 5, none⟩ = some (.int .u8 kd) ∧ W.cell? ⟨b0, off + k * 5 + 1, none⟩ = some (.int .u64 n) ∧ W.cell? ⟨b0, off + k * 5 + 2, none⟩ = some (.int .i64 num) ∧ W.cell? ⟨b0, off + k * 5 + 3, none⟩ = some (.int .u8 wire) ∧ W.cell? ⟨b0, off + k * 5 + 4, none⟩ = some (.slice av B.length cv)) (by kernel_rfl) ⟨e0, e1, e2, e3, e4⟩ (fun hHeld => ?_)
      refine wpAnyH_take (i := 0) (oi := _) (v := ?_) rfl (by kernel_rfl) (by kernel_rfl) (by kernel_rfl) (fun _ _ _ h => h) (Or.inl ⟨by rfl, ?_⟩) (by assumption) ?_
      rotate_left
      · (intro w hSw; obtain ⟨s0, s1, s2, s3, s4⟩ := hSw; go_simp; try with_reducible rfl)
      simp only [Act.put, List.setIfInBounds_toArray, List.set_cons_zero, List.set_cons_succ]
      refine wpAnyH_take (i := 1) (oi := _) (v := ?_) rfl (by kernel_rfl) (by kernel_rfl) (by kernel_rfl) (fun _ _ _ h => h) (Or.inl ⟨by rfl, ?_⟩) (by assumption) ?_
      rotate_left
      · (intro w hSw; obtain ⟨s0, s1, s2, s3, s4⟩ := hSw; go_simp; try with_reducible rfl)
      simp only [Act.put, List.setIfInBounds_toArray, List.set_cons_zero, List.set_cons_succ]
      refine wpAnyH_take (i := 2) (oi := _) (v := ?_) rfl (by kernel_rfl) (by kernel_rfl) (by kernel_rfl) (fun _ _ _ h => h) (Or.inl ⟨by rfl, ?_⟩) (by assumption) ?_
      rotate_left
      · (intro w hSw; obtain ⟨s0, s1, s2, s3, s4⟩ := hSw; go_simp; try with_reducible rfl)
      simp only [Act.put, List.setIfInBounds_toArray, List.set_cons_zero, List.set_cons_succ]
      refine wpAnyH_take (i := 3) (oi := _) (v := ?_) rfl (by kernel_rfl) (by kernel_rfl) (by kernel_rfl) (fun _ _ _ h => h) (Or.inl ⟨by rfl, ?_⟩) (by assumption) ?_
      rotate_left
      · (intro w hSw; obtain ⟨s0, s1, s2, s3, s4⟩ := hSw; go_simp; try with_reducible rfl)
      simp only [Act.put, List.setIfInBounds_toArray, List.set_cons_zero, List.set_cons_succ]
      refine wpAnyH_take (i := 4) (oi := _) (v := ?_) rfl (by kernel_rfl) (by kernel_rfl) (by kernel_rfl) (fun _ _ _ h => h) (Or.inl ⟨by rfl, ?_⟩) (by assumption) ?_
      rotate_left
      · (intro w hSw; obtain ⟨s0, s1, s2, s3, s4⟩ := hSw; go_simp; try with_reducible rfl)
      simp only [Act.put, List.setIfInBounds_toArray, List.set_cons_zero, List.set_cons_succ]
      refine wpAnyH_take (i := 6) (oi := _) (v := ?_) rfl (by kernel_rfl) (by kernel_rfl) (by kernel_rfl) (fun _ _ _ h => h) (Or.inl ⟨by rfl, ?_⟩) (by assumption) ?_
      rotate_left
      · (intro w hSw; obtain ⟨s0, s1, s2, s3, s4⟩ := hSw; go_simp; try with_reducible rfl)
      simp only [Act.put, List.setIfInBounds_toArray, List.set_cons_zero, List.set_cons_succ]
      refine wpAnyH_take (i := 7) (oi := _) (v := ?_) rfl (by kernel_rfl) (by kernel_rfl) (by kernel_rfl) (fun _ _ _ h => h) (Or.inl ⟨by rfl, ?_⟩) (by assumption) ?_
      rotate_left
      · (intro w hSw; obtain ⟨s0, s1, s2, s3, s4⟩ := hSw; go_simp; try with_reducible rfl)
      simp only [Act.put, List.setIfInBounds_toArray, List.set_cons_zero, List.set_cons_succ]
      refine wpAnyH_take (i := 8) (oi := _) (v := ?_) rfl (by kernel_rfl) (by kernel_rfl) (by kernel_rfl) (fun _ _ _ h => h) (Or.inl ⟨by rfl, ?_⟩) (by assumption) ?_
      rotate_left
      · (intro w hSw; obtain ⟨s0, s1, s2, s3, s4⟩ := hSw; go_simp; try with_reducible rfl)
      simp only [Act.put, List.setIfInBounds_toArray, List.set_cons_zero, List.set_cons_succ]
      refine wpAnyH_take (i := 9) (oi := _) (v := ?_) rfl (by kernel_rfl) (by kernel_rfl) (by kernel_rfl) (fun _ _ _ h => h) (Or.inl ⟨by rfl, ?_⟩) (by assumption) ?_
      rotate_left
      · (intro w hSw; obtain ⟨s0, s1, s2, s3, s4⟩ := hSw; go_simp; try with_reducible rfl)
      simp only [Act.put, List.setIfInBounds_toArray, List.set_cons_zero, List.set_cons_succ]
      refine wpAnyH_take (i := 10) (oi := _) (v := ?_) rfl (by kernel_rfl) (by kernel_rfl) (by kernel_rfl) (fun _ _ _ h => h) (Or.inl ⟨by rfl, ?_⟩) (by assumption) ?_
      rotate_left
      · (intro w hSw; obtain ⟨s0, s1, s2, s3, s4⟩ := hSw; go_simp; try with_reducible rfl)
      simp only [Act.put, List.setIfInBounds_toArray, List.set_cons_zero, List.set_cons_succ]
      refine wpAnyH_ready (rs := [5]) (by kernel_rfl) (by simp) ?_
      refine AllReadyH.cons (o := _) rfl (fun K hK => ?_) AllReadyH.nil
      go_simp
      refine (KDO.out _ (hO.grew (Drew.grew ⟨1, rfl⟩)) (hokW.grew (Drew.grew ⟨1, rfl⟩))).mono ?_
      rintro e5 W3 ⟨rfl, F3, hO3, hf3, hn3⟩
      have hP3 := (hP.grew (Drew.grew (⟨1, rfl⟩ : Drew _ _))).fr hf3 (fun k hk hk' => hFF k hk' hk)
      have hg3 : Grew w W3 := hf3.grew (Grew.trans hg (Drew.grew ⟨1, rfl⟩)) (fun i e => Nat.le_trans hb1 (hO.own i e).1)
      have hFF3 : ∀ k, F3 k → ¬ Fp k := fun k hk hk' => by
        rcases hn3 k hk with h | h
        · exact hFF k h hk'
        · have := (hP.own k hk').2; simp at h; omega
      have hok3 : Ask5.ok W3 ⟨kd, n, num, wire, .slice av B.length cv, B⟩ := hok.grew hg3
      have z0 := (below_ext hg3) _ _ d0
      have z1 := (below_ext hg3) _ _ d1
      have z2 := (below_ext hg3) _ _ d2
      have z3 := (below_ext hg3) _ _ d3
      have z4 := (below_ext hg3) _ _ d4
      have HO3 := Lib.hid hO3
      have HP3 := Lib.hid hP3
      clear e0 e1 e2 e3 e4 hO hP hg hFF hf3 hn3 KDO hHeld hO3 hP3 hokW
      go_simp
      refine hK.out _ _ ⟨z0, z1, z2, z3, z4⟩ (fun _ => ?_)
      clear hK K
      (try simp only [Act.put, List.setIfInBounds_toArray, List.set_cons_zero, List.set_cons_succ])
      refine wpAnyH_ready (rs := [11]) (by kernel_rfl) (by simp) ?_
      refine AllReadyH.cons (o := _) rfl (fun K hK => ?_) AllReadyH.nil
      go_simp
      refine (KDP.out _ HP3.out hok3).mono ?_
      rintro e6 W4 ⟨rfl, F4, hP4, hf4, hn4⟩
      have hO4 := HO3.out.fr hf4 (fun k hk hk' => hFF3 k hk hk')
      have hg4 : Grew w W4 := hf4.grew hg3 (fun i e => by have := (HP3.out.own i e).1; omega)
      have hFF4 : ∀ k, F3 k → ¬ F4 k := fun k hk hk' => by
        rcases hn4 k hk' with h | h
        · exact hFF3 k hk h
        · have := (HO3.out.own k hk).2; omega
      have x0 := (below_ext hg4) _ _ d0
      have x1 := (below_ext hg4) _ _ d1
      have x2 := (below_ext hg4) _ _ d2
      have x3 := (below_ext hg4) _ _ d3
      have x4 := (below_ext hg4) _ _ d4
      have HO4 := Lib.hid hO4
      have HP4 := Lib.hid hP4
      clear z0 z1 z2 z3 z4 hO4 hP4 hf4 hn4 hok3 KDP
      go_simp
      refine hK.out _ _ ⟨x0, x1, x2, x3, x4⟩ (fun _ => ?_)
      clear hK K
      (try simp only [Act.put, List.setIfInBounds_toArray, List.set_cons_zero, List.set_cons_succ])
      refine wpAnyH_tail 12 rfl (by kernel_rfl) (by kernel_rfl) (fun m' => ⟨by simpa using x0, by simpa using x1, by simpa using x2, by simpa using x3, by simpa using x4⟩) ?_
      simp only [List.drop_succ_cons, List.drop_zero]
      repeat (go_big_quiet_step (fail))
      refine wpQuiet_nil ?_
      rintro _ ⟨nq, rfl⟩
      clear x0 x1 x2 x3 x4
      go_wp2
      go_roundw
      case rel => exact ⟨k + 1, b', F3, F4, by omega, by go_num, HO4.out.grew (Drew.grew ⟨_, rfl⟩), HP4.out.grew (Drew.grew ⟨_, rfl⟩), hFF4, Grew.trans hg4 (Drew.grew ⟨_, rfl⟩)⟩
      case measure => simp [intOf]; omega
    · obtain rfl : k = A1.length := by omega
      go_wp2
      go_loopw [10, 11, 12] (fun all wn i wr => ∃ (k : Nat) (bp : List UInt8) (e : Nat) (bl : List Nat) (F2 : Nat → Prop), k ≤ A2.length ∧ i = .int .i64 k ∧ wn = .int .i64 e ∧ bl.length = k ∧ OwnFn wr w.heap.size all bl ∧ (∀ (j kk : Nat) (a : Ask5), bl[j]? = some kk → A2[j]? = some a → Blk wr kk 35 (ask5V a).toArray) ∧ OutO p Fo wr p b m ∧ OutO q F2 wr q bp m ∧ (∀ k, Fo k → ¬ F2 k) ∧ Hid (allGo ((A2.take k).map fun a => askD a m) b = (bp, e)) ∧ Grew w wr) (fun _ _ i _ => A2.length - (intOf i).toNat)
      case atStart => exact ⟨0, b, 0, [], Fp, by omega, rfl, rfl, rfl, World.ownsRow_nil _ _ _ _, (fun j kk a h _ => by simp at h), hO, hP, hFF, rfl, hg⟩
      case round =>
        obtain ⟨k, bp, e, bl, F2, hk, rfl, rfl, hbl, hown, hblk, hO2, hP2, hFF2, hgo, hg2⟩ := hrel
        clear hO hP hFF hg
        by_cases hlt : k < A2.length
        · obtain ⟨b0, off, rfl, hc⟩ := HC2.out (by omega)
          have hok := HA2.out A2[k] (List.getElem_mem hlt)
          have hBl := HB2.out A2[k] (List.getElem_mem hlt)
          have hk? : A2[k]? = some A2[k] := List.getElem?_eq_getElem hlt
          have hsn : (A2.take (k + 1)).map (fun a => askD a m) = (A2.take k).map (fun a => askD a m) ++ [askD A2[k] m] := by rw [List.take_succ_eq_append_getElem hlt, List.map_append]; rfl
          obtain ⟨x, hx⟩ : ∃ x, A2[k] = x := ⟨_, rfl⟩
          have hget : ∀ i, i < 5 → (asks5V A2)[k * 5 + i]? = (ask5V A2[k])[i]? := fun i hi => flat_get5 (f := ask5V) (k := 5) (fun _ => rfl) A2 k hlt i hi
          rw [hx] at hget hok hBl hsn hk?
          have hgo2 : allGo ((A2.take (k + 1)).map fun a => askD a m) b = if e ≠ 0 then (bp, e) else askD x m bp := by rw [hsn, allGo_snoc, hgo.out]
          have hdp : ∀ g, Value.blk x.v = some g → x.B ≠ [] → ¬ F2 g := fun g hg' hn hF => by
            have h1 := bs_blk_lt hok.bs g hg' hn
            have h2 := (hP2.own g hF).1
            omega
          have kdp := fun W ho hk => do_any q F2 bp q m x W ho hk hBl hdp
          obtain ⟨⟨b', e'⟩, hD⟩ : ∃ r, askD x m bp = r := ⟨_, rfl⟩
          simp only [hD] at kdp hgo2
          have HX := Lib.hid hk?
          have HGO2 := Lib.hid hgo2
          obtain ⟨kd, n, num, wire, vb, B⟩ := x
          have hbb : Bs w vb B := hok.bs
          obtain ⟨av, cv, rfl⟩ := bs_len hbb
          have d0 := hc _ _ (hget 0 (by omega))
          have d1 := hc _ _ (hget 1 (by omega))
          have d2 := hc _ _ (hget 2 (by omega))
          have d3 := hc _ _ (hget 3 (by omega))
          have d4 := hc _ _ (hget 4 (by omega))
          simp only [Nat.add_zero, ← Nat.add_assoc] at d0 d1 d2 d3 d4
          have e0 := (below_ext hg2) _ _ d0
          have e1 := (below_ext hg2) _ _ d1
          have e2 := (below_ext hg2) _ _ d2
          have e3 := (below_ext hg2) _ _ d3
          have e4 := (below_ext hg2) _ _ d4
          simp only [ask5V] at kdp
          have KDP := Lib.hid kdp
          have ga := grew_alloc wr (.cells #[.int .u8 kd, .int .u64 n, .int .i64 num, .int .u8 wire, .slice av B.length cv] 35)
          have gb := Grew.trans ga (grew_alloc (wr.alloc (.cells #[.int .u8 kd, .int .u64 n, .int .i64 num, .int .u8 wire, .slice av B.length cv] 35)) (.cells #[.func (.func 18) #[] #[.pointer (some ⟨wr.heap.size, 0, none⟩)]] 45))
          have hsl : Sl ((wr.alloc (.cells #[.int .u8 kd, .int .u64 n, .int .i64 num, .int .u8 wire, .slice av B.length cv] 35)).alloc (.cells #[.func (.func 18) #[] #[.pointer (some ⟨wr.heap.size, 0, none⟩)]] 45)) (.slice (some ⟨wr.heap.size + 1, 0, none⟩) 1 1) 1 1 (fnV [wr.heap.size]) := by
            have h := Sl.one (wr.alloc (.cells #[.int .u8 kd, .int .u64 n, .int .i64 num, .int .u8 wire, .slice av B.length cv] 35)) (.func (.func 18) #[] #[.pointer (some ⟨wr.heap.size, 0, none⟩)]) 45 rfl
            rw [World.size_alloc] at h
            exact h
          have hnb := (Blk.new wr 35 #[.int .u8 kd, .int .u64 n, .int .i64 num, .int .u8 wire, .slice av B.length cv]).alloc (.cells #[.func (.func 18) #[] #[.pointer (some ⟨wr.heap.size, 0, none⟩)]] 45)
          have hownb := own_grew hown gb
          have hOb := hO2.grew gb
          have hPb := hP2.grew gb
          have hgb2 := Grew.trans hg2 gb
          have hblkb : Hid (∀ (j kk : Nat) (a : Ask5), bl[j]? = some kk → A2[j]? = some a → Blk ((wr.alloc (.cells #[.int .u8 kd, .int .u64 n, .int .i64 num, .int .u8 wire, .slice av B.length cv] 35)).alloc (.cells #[.func (.func 18) #[] #[.pointer (some ⟨wr.heap.size, 0, none⟩)]] 45)) kk 35 (ask5V a).toArray) := fun j kk a h1 h2 => (hblk j kk a h1 h2).grew gb
          have HBLEN := Lib.hid hbl
          have hbl40 : bl.length ≤ 1000000 := by omega
          have hbase : w.heap.size ≤ wr.heap.size := hg2.size
          clear hget hc hx hD kdp hdp hgo2 hsn hk? hblk hown hO2 hP2 hg2 ga gb hgo hbl
          by_cases he : e = 0
          · subst he
            go_wp2_with (at_builtin; refine wpList_pushF rfl _ _ rfl w.heap.size u10 bl rfl hownb _ rfl wr.heap.size hsl hbl40 (by simp; omega) ?_; intro v' w5 hown5 hB5 hgb5; have hnb5 := hnb.kept hgb5 (blk_ne_row hnb hownb (by decide)); obtain ⟨n0, n1, n2, n3, n4⟩ := cells5 hnb5)
            have hblk5 : Hid (∀ (j kk : Nat) (a : Ask5), (bl ++ [wr.heap.size])[j]? = some kk → A2[j]? = some a → Blk w5 kk 35 (ask5V a).toArray) := by
              intro j kk a h1 h2
              by_cases hj : j < bl.length
              · rw [List.getElem?_append_left hj] at h1
                have h3 := hblkb.out j kk a h1 h2
                exact h3.kept hgb5 (blk_ne_row h3 hownb (by decide))
              · have hj2 := (List.getElem?_eq_some_iff.1 h1).1
                rw [List.length_append, List.length_singleton] at hj2
                obtain rfl : j = k := by have := HBLEN.out; omega
                rw [List.getElem?_append_right (by omega), HBLEN.out, Nat.sub_self] at h1
                cases h1
                cases h2.symm.trans HX.out
                exact hnb5
            have hfr5 : Fr (fun k => u10.ownBlock = some k) _ w5 := Fr.of_grown hgb5 (fun k h => h)
            have hO5 := hOb.fr hfr5 (fun k hk hS => hOb.not_row hownb (by decide) (by decide) k hS hk)
            have hP5 := hPb.fr hfr5 (fun k hk hS => hPb.not_row hownb (by decide) (by decide) k hS hk)
            have hg5 : Grew w w5 := hfr5.grew hgb2 (fun i hi => (own_lt hownb i hi).1)
            have hok5 := hok.grew hg5
            clear hfr5 hOb hPb hgb2 hok hnb5 hgb5 hB5 hnb hownb hblkb
            refine (KDP.out _ hP5 hok5).mono ?_
            rintro e6 W6 ⟨rfl, F4, hP6, hf6, hn6⟩
            have hO6 := hO5.fr hf6 (fun k hk hk' => hFF2 k hk hk')
            have hown6 := own_fr hown5 hf6 (hP5.not_row hown5 (by decide) (by decide))
            have hblk6 : Hid (∀ (j kk : Nat) (a : Ask5), (bl ++ [wr.heap.size])[j]? = some kk → A2[j]? = some a → Blk W6 kk 35 (ask5V a).toArray) := fun j kk a h1 h2 => by
              have h3 := hblk5.out j kk a h1 h2
              exact h3.fr hf6 (hP5.not_blk h3 (by decide) (by decide))
            have hg6 : Grew w W6 := hf6.grew hg5 (fun i e => by have := (hP5.own i e).1; omega)
            have hFF6 : ∀ k, Fo k → ¬ F4 k := fun k hk hk' => by
              rcases hn6 k hk' with h | h
              · exact hFF2 k hk h
              · have := (hO5.own k hk).2; omega
            clear hO5 hP5 hown5 hblk5 hf6 hn6 hg5 hok5 KDP
            go_wp2
            go_roundw
            case rel => exact ⟨k + 1, b', e', bl ++ [wr.heap.size], F4, by omega, by go_num, rfl, by simp [HBLEN.out], hown6, hblk6.out, hO6, hP6, hFF6, Lib.hid (by rw [HGO2.out]; simp), hg6⟩
            case measure => simp [intOf]; omega
          · have hez : ((e : Int) == 0) = false := by simpa using he
            go_wp2_with (at_builtin; refine wpList_pushF rfl _ _ rfl w.heap.size u10 bl rfl hownb _ rfl wr.heap.size hsl hbl40 (by simp; omega) ?_; intro v' w5 hown5 hB5 hgb5; have hnb5 := hnb.kept hgb5 (blk_ne_row hnb hownb (by decide)))
            have hblk5 : Hid (∀ (j kk : Nat) (a : Ask5), (bl ++ [wr.heap.size])[j]? = some kk → A2[j]? = some a → Blk w5 kk 35 (ask5V a).toArray) := by
              intro j kk a h1 h2
              by_cases hj : j < bl.length
              · rw [List.getElem?_append_left hj] at h1
                have h3 := hblkb.out j kk a h1 h2
                exact h3.kept hgb5 (blk_ne_row h3 hownb (by decide))
              · have hj2 := (List.getElem?_eq_some_iff.1 h1).1
                rw [List.length_append, List.length_singleton] at hj2
                obtain rfl : j = k := by have := HBLEN.out; omega
                rw [List.getElem?_append_right (by omega), HBLEN.out, Nat.sub_self] at h1
                cases h1
                cases h2.symm.trans HX.out
                exact hnb5
            have hfr5 : Fr (fun k => u10.ownBlock = some k) _ w5 := Fr.of_grown hgb5 (fun k h => h)
            have hO5 := hOb.fr hfr5 (fun k hk hS => hOb.not_row hownb (by decide) (by decide) k hS hk)
            have hP5 := hPb.fr hfr5 (fun k hk hS => hPb.not_row hownb (by decide) (by decide) k hS hk)
            have hg5 : Grew w w5 := hfr5.grew hgb2 (fun i hi => (own_lt hownb i hi).1)
            refine ⟨⟨k + 1, bp, e, bl ++ [wr.heap.size], F2, by omega, by go_num, rfl, by simp [HBLEN.out], hown5, hblk5.out, hO5, hP5, hFF2, Lib.hid (by rw [HGO2.out]; simp [he]), hg5⟩, ?_⟩
            simp [intOf]; omega
        · obtain rfl : k = A2.length := by omega
          rw [List.take_length] at hgo
          have hAE : AllEnv w.heap.size u10 bl A2 wr Fo := ⟨hown, hblk, fun a ha => (HA2.out a ha).grew hg2, fun a ha g hg' hn hF => by
            have h1 := bs_blk_lt (HA2.out a ha).bs g hg' hn
            have h2 := (hO2.own g hF).1
            omega⟩
          go_wp2_with fail
          refine (oout_any _ Fo b p m wr hO2).mono ?_
          rintro _ W1 ⟨vw, rfl, hvw, gW1⟩
          obtain ⟨nb, hnb⟩ : ∃ nb, wr.heap.size = nb := ⟨_, rfl⟩
          rw [hnb] at hvw
          have hO3 := hO2.grew gW1
          have hP3 := hP2.grew gW1
          have hAE3 : AllEnv w.heap.size u10 bl A2 W1 Fo := hAE.step hO2 hbl (Fr.of_grew gW1) (fun k hk => .inl hk)
          have kall := oalls_any w.heap.size p p m Fo b u10 bl A2 W1 hAE3 hbl hO3 hlen2 HB2.out
          have hsz1 := gW1.size
          rw [hnb] at hsz1
          have hFnb : ∀ k, Fo k → k < nb := fun k hk => by have := (hO2.own k hk).2; omega
          have hg3 := Grew.trans hg2 gW1
          clear hAE hAE3 hown hblk hO2 hP2 hg2 gW1 HC1 HC2 HA1 HA2 HB1 HB2 HS1 HS2
          by_cases he : e = 0
          · subst he
            have hR : allR (A2.map fun a => askD a m) b = (bp, 0) := by rw [allR, hgo.out]; simp
            rw [hR] at kall
            have KALL := Lib.hid kall
            clear kall
            go_wp2_with fail
            refine KALL.out.mono ?_
            rintro _ W2 ⟨rfl, F5, hO5, hf5, hn5⟩
            have hP5 := hP3.fr hf5 (fun k hk hk' => hFF2 k hk' hk)
            have hg5 : Grew w W2 := hf5.grew hg3 (fun i e => by have := (hO3.own i e).1; omega)
            clear hvw hO3 hP3 hf5 hn5 hg3
            go_wp2_with fail
            refine (oout_any _ F5 bp p m W2 hO5).mono ?_
            rintro _ W3 ⟨v3, rfl, hv3, g3⟩
            have hO6 := hO5.grew g3
            have hP6 := hP5.grew g3
            have hg6 := Grew.trans hg5 g3
            clear hO5 hP5 hg5 g3
            go_wp2_with fail
            refine (oout_any _ F2 bp q m W3 hP6).mono ?_
            rintro _ W4 ⟨v4, rfl, hv4, g4⟩
            have hv5 := Sl.of_own (own_grew hv3 g4)
            have hv6 := Sl.of_own hv4
            have hO7 := hO6.grew g4
            have hP7 := hP6.grew g4
            have hg7 := Grew.trans hg6 g4
            clear hO6 hP6 hg6 g4 hv3 hv4
            go_wp2_with fail
            refine (same_any bp bp _ _ W4 hv5 hv6).mono ?_
            rintro _ W5 ⟨rfl, hd⟩
            have hO8 := hO7.grew hd.grew
            have hP8 := hP7.grew hd.grew
            have hg8 := Grew.trans hg7 hd.grew
            clear hO7 hP7 hg7 hd hv5 hv6
            rw [beq_self_eq_true]
            go_wp2_with fail
            refine (oleft_any _ F5 bp p m W5 hO8).mono ?_
            rintro _ W6 ⟨rfl, hd⟩
            have hP9 := hP8.grew hd.grew
            have hg9 := Grew.trans hg8 hd.grew
            clear hO8 hP8 hg8 hd
            go_wp2_with fail
            refine (oleft_any _ F2 bp q m W6 hP9).mono ?_
            rintro _ W7 ⟨rfl, hd⟩
            have hg10 := Grew.trans hg9 hd.grew
            clear hP9 hg9 hd
            go_wp2
            go_ret
            exact ⟨rfl, hg10⟩
          · have hez : ((e : Int) != 0) = true := by simpa using he
            have hR : allR (A2.map fun a => askD a m) b = (b, e) := by rw [allR, hgo.out]; simp [he]
            rw [hR] at kall
            have KALL := Lib.hid kall
            clear kall
            go_wp2_with fail
            refine KALL.out.mono ?_
            rintro _ W2 ⟨rfl, F5, hO5, hf5, hn5⟩
            have hv5 := own_fr hvw hf5 (fun g hg hF => by have := (own_lt hvw g hg).1; have := hFnb g hF; omega)
            have hg5 : Grew w W2 := hf5.grew hg3 (fun i e => by have := (hO3.own i e).1; omega)
            clear hvw hO3 hP3 hf5 hn5 hg3
            go_wp2_with fail
            refine (oout_any _ F5 b p m W2 hO5).mono ?_
            rintro _ W3 ⟨v3, rfl, hv3, g3⟩
            have hv6 := Sl.of_own (own_grew hv5 g3)
            have hv7 := Sl.of_own hv3
            have hg6 := Grew.trans hg5 g3
            clear hO5 hg5 g3 hv5 hv3
            go_wp2_with fail
            refine (same_any b b _ _ W3 hv7 hv6).mono ?_
            rintro _ W5 ⟨rfl, hd⟩
            have hg8 := Grew.trans hg6 hd.grew
            clear hg6 hd hv6 hv7
            rw [beq_self_eq_true]
            go_wp2
            go_ret
            exact ⟨rfl, hg8⟩
end Go.Proofs.Ytakogncnkbgkfaa
