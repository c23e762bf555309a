/- The law OutletWrites returns true: its walk. -/
import Derived.Test.YtakogncnkbgkfaaOlv
namespace Go.Proofs.Ytakogncnkbgkfaa
open Go Go.RowKit Go.Shelf
attribute [local go_sem] Oper.semAt_some

theorem wpAnyH_weaken {P : Program} {md : Region.Mode} {ops : Array Oper} {Q : Exit → Act → World → Prop} {S S' : World → Prop} (hs : ∀ w, S' w → S w) : ∀ {fuel : Nat} {listed : Array Bool} {a : Act} {w : World}, wpAnyH P md ops Q S' fuel listed a w → wpAnyH P md ops Q S fuel listed a w
  | 0, _, _, _, h => h
  | _ + 1, _, _, _, h => ⟨h.1, fun i hi => wpOp_mono (fun _ _ h' => ⟨hs _ h'.1, wpAnyH_weaken hs h'.2⟩) (h.2 i hi)⟩

theorem flat_get5 {α : Type} {f : α → List Value} {k : Nat} (hf : ∀ x, (f x).length = k) : ∀ (l : List α) (j : Nat) (hj : j < l.length) (i : Nat), i < k → (l.flatMap f)[j * k + i]? = (f l[j])[i]?
  | x :: l, 0, _, i, hi => by
    rw [Nat.zero_mul, Nat.zero_add, List.flatMap_cons, List.getElem?_append_left (by rw [hf]; exact hi)]; rfl
  | x :: l, j + 1, hj, i, hi => by
    rw [List.flatMap_cons, List.getElem?_append_right (by rw [hf, Nat.add_mul]; omega), hf, show (j + 1) * k + i - k = j * k + i by rw [Nat.add_mul]; omega, flat_get5 hf l j (by simpa using hj) i hi]; rfl
  | [], _, hj, _, _ => by simp at hj
abbrev asks5V (l : List Ask5) : List Value := l.flatMap ask5V
theorem bs_blk_lt {w : World} {v : Value} {l : List UInt8} (h : Bs w v l) : ∀ g, Value.blk v = some g → l ≠ [] → g < w.heap.size := by
  intro g hg hc
  obtain ⟨_, a, c, rfl, _, _, _, hcell⟩ := h
  cases a with
  | none => cases hg
  | some ad =>
    cases hg
    have hpos : 0 < (bv l).length := by rw [bv_length]; exact List.length_pos_iff.2 hc
    have h0 : (bv l)[0]? = some (bv l)[0] := List.getElem?_eq_getElem hpos
    have := cell_lt (hcell ad rfl 0 _ h0)
    rwa [add_block] at this

def smallB (l : List Ask5) : Bool := decide (l.length ≤ 40) && l.all fun a => decide (a.B.length ≤ 1000)
set_option maxRecDepth 10000 in
set_option maxHeartbeats 1000000 in
theorem small_any (A : List Ask5) (v : Value) (w : World) (hs : Sl w v A.length 5 (asks5V A)) (hA : ∀ a ∈ A, a.ok w) : Calls Try.prog 9 #[v] w fun e w' => e = .returned (.bool (smallB A)) ∧ w = w' := by
  obtain ⟨a, c, rfl, l1, l2, -, hcell⟩ := hs.open
  unfold maxLen at l2
  by_cases h40 : 40 < A.length
  · have e : smallB A = false := by unfold smallB; rw [decide_eq_false (by omega)]; rfl
    rw [e]
    clear e hcell
    go_enter Try.func9, Try.ntmps9
    go_wp2
    go_ret
    exact ⟨rfl, rfl⟩
  · have hle : A.length ≤ 40 := by omega
    obtain ⟨R, hR⟩ : ∃ R, smallB A = R := ⟨_, rfl⟩
    rw [hR]
    have HR := Lib.hid hR
    have HC := Lib.hid hcell
    have HA := Lib.hid hA
    clear hR h40 hcell hA hs
    go_enter Try.func9, Try.ntmps9
    go_wp2
    go_loop [3] (fun i => ∃ k : Nat, k ≤ A.length ∧ i = .int .i64 k ∧ Hid ((A.take k).all (fun a => decide (a.B.length ≤ 1000)) = true)) (fun i => A.length - (intOf i).toNat)
    case atStart => exact ⟨0, by omega, rfl, rfl⟩
    case round =>
      obtain ⟨k, hk, rfl, hall⟩ := hrel
      by_cases hlt : k < A.length
      · obtain ⟨b0, off, rfl, hc⟩ := HC.out (by omega)
        have hok := HA.out A[k] (List.getElem_mem hlt)
        obtain ⟨x, hx⟩ : ∃ x, A[k] = x := ⟨_, rfl⟩
        have d4 := hc _ _ (flat_get5 (f := ask5V) (k := 5) (fun _ => rfl) A k hlt 4 (by omega))
        rw [hx] at d4 hok
        have htk : (A.take (k + 1)).all (fun a => decide (a.B.length ≤ 1000)) = ((A.take k).all (fun a => decide (a.B.length ≤ 1000)) && decide (x.B.length ≤ 1000)) := by
          rw [List.take_succ_eq_append_getElem hlt, List.all_append, hx]; simp
        have HTK := Lib.hid htk
        obtain ⟨kd, n, num, wire, vb, B⟩ := x
        have hbb : Bs w vb B := hok.bs
        obtain ⟨av, cv, rfl⟩ := bs_len hbb
        have d : w.cell? ⟨b0, off + k * 5 + 4, none⟩ = some (.slice av B.length cv) := d4
        have hmem : A[k].B.length = B.length := by rw [hx]
        have HM := Lib.hid hmem
        clear hc d4 hok hx htk hmem
        by_cases hB : 1000 < B.length
        · go_wp2
          go_ret
          have : smallB A = false := by
            unfold smallB
            rw [Bool.and_eq_false_iff]
            right
            rw [List.all_eq_false]
            exact ⟨A[k], List.getElem_mem hlt, by rw [HM.out]; simp; omega⟩
          rw [← HR.out, this]
          exact ⟨rfl, rfl⟩
        · go_wp2
          go_round
          case rel => exact ⟨k + 1, by omega, by go_num, by rw [Hid, HTK.out, hall.out]; simp; omega⟩
          case measure => simp [intOf]; omega
      · obtain rfl : k = A.length := by omega
        go_wp2
        go_ret
        have h := hall.out
        rw [List.take_length] at h
        rw [← HR.out, smallB, h, decide_eq_true hle]
        exact ⟨rfl, rfl⟩

theorem small_len {A : List Ask5} (h : smallB A = true) : A.length ≤ 40 ∧ ∀ a ∈ A, a.B.length ≤ 1000 := by
  unfold smallB at h
  rw [Bool.and_eq_true, decide_eq_true_eq, List.all_eq_true] at h
  exact ⟨h.1, fun a ha => by simpa using h.2 a ha⟩
theorem Ask5.ok.grew {a : Ask5} {w w' : World} (h : a.ok w) (g : Grew w w') : a.ok w' := ⟨h.kind, h.n, h.num1, h.num2, h.wire, h.bs.grew g⟩

set_option maxRecDepth 100000 in
set_option maxHeartbeats 8000000 in
theorem outlet_writes (most : Int) (A : List Ask5) (v : Value) (w : World) (hs : Sl w v A.length 5 (asks5V A)) (hA : ∀ a ∈ A, a.ok w) :
    Calls Try.prog 3 #[.int .i64 most, v] w fun e w' => e = .returned (.bool true) ∧ Grew w w' := by
  obtain ⟨a, c, rfl, l1, l2, -, hcell⟩ := hs.open
  unfold maxLen at l2
  cases hsm : smallB A with
  | false =>
    have HSM := Lib.hid hsm
    clear hsm hcell
    go_enter Try.func3, Try.ntmps3
    go_wp2_with fail
    refine (live5_any _).mono ?_
    rintro e w1 ⟨rfl, g1⟩
    go_wp2_with fail
    refine (small_any A _ _ (hs.grew g1) (fun a ha => (hA a ha).grew g1)).mono ?_
    rintro e w2 ⟨rfl, rfl⟩
    rw [HSM.out]
    go_wp2
    go_ret
    exact ⟨rfl, g1⟩
  | true =>
  obtain ⟨hlen, hBs⟩ := small_len hsm
  have HSM := Lib.hid hsm
  have HC := Lib.hid hcell
  have HA := Lib.hid hA
  have HBs := Lib.hid hBs
  have HS := Lib.hid hs
  clear hsm hcell hA hBs hs
  go_enter Try.func3, Try.ntmps3
  go_wp2_with fail
  refine (live5_any _).mono ?_
  rintro e w1 ⟨rfl, g1⟩
  go_wp2_with fail
  refine (small_any A _ _ (HS.out.grew g1) (fun a ha => (HA.out a ha).grew g1)).mono ?_
  rintro e w2 ⟨rfl, rfl⟩
  rw [HSM.out]
  go_wp2_with fail
  refine (onew_any most _).mono ?_
  rintro e w2 ⟨rfl, o2, g2⟩
  go_wp2_with fail
  refine (rnew_any most _).mono ?_
  rintro e w3 ⟨rfl, r3, g3⟩
  have o3 := o2.grew g3
  have G3 := Grew.trans (Grew.trans g1 g2) g3
  obtain ⟨m, hm⟩ : ∃ m, clampM most = m := ⟨_, rfl⟩
  rw [hm] at o3 r3
  have hpq : w1.heap.size < w2.heap.size := (o2.own _ rfl).2
  have hb1 : w.heap.size ≤ w1.heap.size := g1.size
  obtain ⟨p, hp⟩ : ∃ p, w1.heap.size = p := ⟨_, rfl⟩
  obtain ⟨q, hq⟩ : ∃ q, w2.heap.size = q := ⟨_, rfl⟩
  rw [hp, hq] at hpq
  rw [hp] at o3 hb1
  rw [hq] at r3
  have HP := Lib.hid hp
  have HQ := Lib.hid hq
  clear o2 g1 g2 g3 hm hp hq
  go_wp2_with fail
  rw [HP.out, HQ.out]
  go_loopw [7] (fun i wr => ∃ (k : Nat) (b : List UInt8) (F F' : Nat → Prop), k ≤ A.length ∧ i = .int .i64 k ∧ OutO p F wr p b m ∧ OutR q F' wr q b m ∧ (∀ k, F k → ¬ F' k) ∧ Grew w wr) (fun i _ => A.length - (intOf i).toNat)
  case atStart => exact ⟨0, [], _, _, by omega, rfl, o3, r3, fun k h1 h2 => by omega, G3⟩
  case round =>
    obtain ⟨k, b, F, F', hk, rfl, hO, hR, hFF, hg⟩ := hrel
    clear o3 r3 G3
    by_cases hlt : k < A.length
    · obtain ⟨b0, off, rfl, hc⟩ := HC.out (by omega)
      have hok := HA.out A[k] (List.getElem_mem hlt)
      have hBl := HBs.out A[k] (List.getElem_mem hlt)
      obtain ⟨x, hx⟩ : ∃ x, A[k] = x := ⟨_, rfl⟩
      have hget : ∀ i, i < 5 → (asks5V A)[k * 5 + i]? = (ask5V A[k])[i]? := fun i hi => flat_get5 (f := ask5V) (k := 5) (fun _ => rfl) A k hlt i hi
      rw [hx] at hget hok hBl
      have hdis : ∀ g, Value.blk x.v = some g → x.B ≠ [] → ¬ F g := fun g hg' hn hF => by
        have h1 := bs_blk_lt hok.bs g hg' hn
        have h2 := (hO.own g hF).1
        omega
      have hokW := hok.grew hg
      have hbs : w.heap.size ≤ p := hb1
      have kd' := fun W ho hk => do_any p F b p m x W ho hk hBl hdis
      have kb' := bytesOf5_any x _ hokW hBl
      obtain ⟨⟨wb, er⟩, hW⟩ : ∃ W, askW x = W := ⟨_, rfl⟩
      have hD : askD x m b = if er ≠ 0 then (b, er) else putR b wb m := by unfold askD; rw [hW]
      simp only [hD] at kd'
      simp only [hW] at kb'
      obtain ⟨kd, n, num, wire, vb, B⟩ := x
      have hbb : Bs w vb B := hok.bs
      obtain ⟨av, cv, rfl⟩ := bs_len hbb
      have d0 := hc _ _ (hget 0 (by omega))
      have d1 := hc _ _ (hget 1 (by omega))
      have d2 := hc _ _ (hget 2 (by omega))
      have d3 := hc _ _ (hget 3 (by omega))
      have d4 := hc _ _ (hget 4 (by omega))
      simp only [Nat.add_zero, ← Nat.add_assoc] at d0 d1 d2 d3 d4
      have e0 := (below_ext hg) _ _ d0
      have e1 := (below_ext hg) _ _ d1
      have e2 := (below_ext hg) _ _ d2
      have e3 := (below_ext hg) _ _ d3
      have e4 := (below_ext hg) _ _ d4
      simp only [ask5V] at kd' kb'
      have KB := Lib.hid kb'
      have hwl : wb.length ≤ 100000000 := by
        have h : wb.length ≤ 2000 := by have h' := askW_len _ hok.n hok.wire hBl; rw [hW] at h'; exact h'
        omega
      clear hget hc hx hD hW kb' hdis
      by_cases her : er = 0
      · subst her
        simp only [ne_eq, not_true_eq_false, if_false] at kd'
        obtain ⟨⟨b', e'⟩, hP⟩ : ∃ r, putR b wb m = r := ⟨_, rfl⟩
        have kp := fun W h hx => rput5_any q F' b wb q m W h hx
        simp only [hP] at kd'
        have KD := Lib.hid kd'
        have HP' := Lib.hid hP
        clear kd' hP kp
        go_wp2_with fail
        refine KB.out.mono ?_
        rintro e w5 ⟨v5, rfl, s5, g5⟩
        obtain ⟨a5, c5, rfl⟩ := bs_len s5
        have hg5 := Grew.trans hg g5
        have hO5 := hO.grew g5
        have hR5 := hR.grew g5
        have hok5 := hokW.grew g5
        have hFl : ∀ k, F k → k < w5.heap.size := fun k hk => (hO5.own k hk).2
        clear hO hR hg hokW e0 e1 e2 e3 e4 KB
        go_wp2_with fail
        refine (rput5_any q F' b wb q m _ _ hR5 s5 hwl).mono ?_
        rw [HP'.out]
        rintro e w6 ⟨rfl, F6, hR6, hf6, hn6⟩
        have hR := hR6
        clear hR6
        have hO := hO5.fr hf6 hFF
        have hg : Grew w w6 := hf6.grew hg5 (fun i e => by have := (hR5.own i e).1; omega)
        have hokW : Ask5.ok w6 ⟨kd, n, num, wire, .slice av B.length cv, B⟩ := hok.grew hg
        have hFF6 : ∀ k, F k → ¬ F6 k := fun k hk hk' => by
          rcases hn6 k hk' with h | h
          · exact hFF k hk h
          · have := hFl k hk; omega
        have e0 := (below_ext hg) _ _ d0
        have e1 := (below_ext hg) _ _ d1
        have e2 := (below_ext hg) _ _ d2
        have e3 := (below_ext hg) _ _ d3
        have e4 := (below_ext hg) _ _ d4
        clear hO5 hR5 hok5 hg5 hf6 hn6 hFF hFl s5 g5
        have hFF := hFF6
        clear hFF6
        obtain ⟨FQ, hFQ⟩ : ∃ FQ, F6 = FQ := ⟨_, rfl⟩
        rw [hFQ] at hFF hR
        clear hFQ
        go_wp2
        refine wp_region_held_drew (S := fun W => W.cell? ⟨b0, off + k * 5, none⟩ = some (.int .u8 kd) ∧ W.cell? ⟨b0, off + k * 5 + 1, none⟩ = some (.int .u64 n) ∧ W.cell? ⟨b0, off + k * 5 + 2, none⟩ = some (.int .i64 num) ∧ W.cell? ⟨b0, off + k * 5 + 3, none⟩ = some (.int .u8 wire) ∧ W.cell? ⟨b0, off + k * 5 + 4, none⟩ = some (.slice av B.length cv)) (by kernel_rfl) ⟨e0, e1, e2, e3, e4⟩ (fun hHeld => ?_)
        refine wpAnyH_take (i := 0) (oi := _) (v := ?_) rfl (by kernel_rfl) (by kernel_rfl) (by kernel_rfl) (fun _ _ _ h => h) (Or.inl ⟨by rfl, ?_⟩) (by assumption) ?_
        rotate_left
        · (intro w hSw; obtain ⟨s0, s1, s2, s3, s4⟩ := hSw; go_simp; try with_reducible rfl)
        simp only [Act.put, List.setIfInBounds_toArray, List.set_cons_zero, List.set_cons_succ]
        refine wpAnyH_take (i := 1) (oi := _) (v := ?_) rfl (by kernel_rfl) (by kernel_rfl) (by kernel_rfl) (fun _ _ _ h => h) (Or.inl ⟨by rfl, ?_⟩) (by assumption) ?_
        rotate_left
        · (intro w hSw; obtain ⟨s0, s1, s2, s3, s4⟩ := hSw; go_simp; try with_reducible rfl)
        simp only [Act.put, List.setIfInBounds_toArray, List.set_cons_zero, List.set_cons_succ]
        refine wpAnyH_take (i := 2) (oi := _) (v := ?_) rfl (by kernel_rfl) (by kernel_rfl) (by kernel_rfl) (fun _ _ _ h => h) (Or.inl ⟨by rfl, ?_⟩) (by assumption) ?_
        rotate_left
        · (intro w hSw; obtain ⟨s0, s1, s2, s3, s4⟩ := hSw; go_simp; try with_reducible rfl)
        simp only [Act.put, List.setIfInBounds_toArray, List.set_cons_zero, List.set_cons_succ]
        refine wpAnyH_take (i := 3) (oi := _) (v := ?_) rfl (by kernel_rfl) (by kernel_rfl) (by kernel_rfl) (fun _ _ _ h => h) (Or.inl ⟨by rfl, ?_⟩) (by assumption) ?_
        rotate_left
        · (intro w hSw; obtain ⟨s0, s1, s2, s3, s4⟩ := hSw; go_simp; try with_reducible rfl)
        simp only [Act.put, List.setIfInBounds_toArray, List.set_cons_zero, List.set_cons_succ]
        refine wpAnyH_take (i := 4) (oi := _) (v := ?_) rfl (by kernel_rfl) (by kernel_rfl) (by kernel_rfl) (fun _ _ _ h => h) (Or.inl ⟨by rfl, ?_⟩) (by assumption) ?_
        rotate_left
        · (intro w hSw; obtain ⟨s0, s1, s2, s3, s4⟩ := hSw; go_simp; try with_reducible rfl)
        simp only [Act.put, List.setIfInBounds_toArray, List.set_cons_zero, List.set_cons_succ]
        refine wpAnyH_take (i := 6) (oi := _) (v := ?_) rfl (by kernel_rfl) (by kernel_rfl) (by kernel_rfl) (fun _ _ _ h => h) (Or.inl ⟨by rfl, ?_⟩) (by assumption) ?_
        rotate_left
        · (intro w hSw; obtain ⟨s0, s1, s2, s3, s4⟩ := hSw; go_simp; try with_reducible rfl)
        simp only [Act.put, List.setIfInBounds_toArray, List.set_cons_zero, List.set_cons_succ]
        refine wpAnyH_ready (rs := [5]) (by kernel_rfl) (by simp) ?_
        refine AllReadyH.cons (o := _) rfl (fun K hK => ?_) AllReadyH.nil
        go_simp
        refine (KD.out _ (hO.grew (Drew.grew ⟨1, rfl⟩)) (hokW.grew (Drew.grew ⟨1, rfl⟩))).mono ?_
        rintro e5 W3 ⟨rfl, F3, hO3, hf3, hn3⟩
        have hR3 := (hR.grew (Drew.grew (⟨1, rfl⟩ : Drew _ _))).fr hf3 (fun k hk hk' => hFF k hk' hk)
        have hg3 : Grew w W3 := hf3.grew (Grew.trans hg (Drew.grew ⟨1, rfl⟩)) (fun i e => Nat.le_trans hbs (hO.own i e).1)
        have hFF3 : ∀ k, F3 k → ¬ FQ k := fun k hk hk' => by
          rcases hn3 k hk with h | h
          · exact hFF k h hk'
          · have := (hR.own k hk').2; simp at h; omega
        have z0 := (below_ext hg3) _ _ d0
        have z1 := (below_ext hg3) _ _ d1
        have z2 := (below_ext hg3) _ _ d2
        have z3 := (below_ext hg3) _ _ d3
        have z4 := (below_ext hg3) _ _ d4
        obtain ⟨vq, hbq, hoq, hlq, hmq, hpq, hFq⟩ := id hR3
        have sq := Sl.of_own hoq
        obtain ⟨aq, cq, rfl⟩ := bs_len sq
        obtain ⟨y0, y1, -, -⟩ := cells_of' hbq
        have HO3 := Lib.hid hO3
        have HR3 := Lib.hid hR3
        have HFQ := Lib.hid hFq
        clear e0 e1 e2 e3 e4 hO hR hg hFF hf3 hn3 KD hHeld hFq hO3 hR3 hoq hokW
        go_simp
        refine hK.out _ _ ⟨z0, z1, z2, z3, z4⟩ (fun _ => ?_)
        clear hK K
        (try simp only [Act.put, List.setIfInBounds_toArray, List.set_cons_zero, List.set_cons_succ])
        have hHeld2 : (fun W => W.cell? ⟨b0, off + k * 5, none⟩ = some (.int .u8 kd) ∧ W.cell? ⟨b0, off + k * 5 + 1, none⟩ = some (.int .u64 n) ∧ W.cell? ⟨b0, off + k * 5 + 2, none⟩ = some (.int .i64 num) ∧ W.cell? ⟨b0, off + k * 5 + 3, none⟩ = some (.int .u8 wire) ∧ W.cell? ⟨b0, off + k * 5 + 4, none⟩ = some (.slice av B.length cv)) W3 ∧ W3.cell? ⟨q, 0, none⟩ = some (.slice aq b'.length cq) ∧ W3.cell? ⟨q, 1, none⟩ = some (.int .i64 m) := ⟨⟨z0, z1, z2, z3, z4⟩, y0, y1⟩
        refine wpAnyH_weaken (S' := fun W => (fun W => W.cell? ⟨b0, off + k * 5, none⟩ = some (.int .u8 kd) ∧ W.cell? ⟨b0, off + k * 5 + 1, none⟩ = some (.int .u64 n) ∧ W.cell? ⟨b0, off + k * 5 + 2, none⟩ = some (.int .i64 num) ∧ W.cell? ⟨b0, off + k * 5 + 3, none⟩ = some (.int .u8 wire) ∧ W.cell? ⟨b0, off + k * 5 + 4, none⟩ = some (.slice av B.length cv)) W ∧ W.cell? ⟨q, 0, none⟩ = some (.slice aq b'.length cq) ∧ W.cell? ⟨q, 1, none⟩ = some (.int .i64 m)) (fun W h => h.1) ?_
        refine wpAnyH_take (i := 7) (oi := _) (v := ?_) rfl (by kernel_rfl) (by kernel_rfl) (by kernel_rfl) (fun _ _ _ h => h) (Or.inl ⟨by rfl, ?_⟩) hHeld2 ?_
        rotate_left
        · (intro w hSw; obtain ⟨s5, s6, s7⟩ := hSw; clear s5; go_simp; try with_reducible rfl)
        simp only [Act.put, List.setIfInBounds_toArray, List.set_cons_zero, List.set_cons_succ]
        refine wpAnyH_take (i := 8) (oi := _) (v := ?_) rfl (by kernel_rfl) (by kernel_rfl) (by kernel_rfl) (fun _ _ _ h => h) (Or.inl ⟨by rfl, ?_⟩) hHeld2 ?_
        rotate_left
        · (intro w hSw; obtain ⟨s5, s6, s7⟩ := hSw; clear s5; go_simp; try with_reducible rfl)
        simp only [Act.put, List.setIfInBounds_toArray, List.set_cons_zero, List.set_cons_succ]
        refine wpAnyH_take (i := 9) (oi := _) (v := ?_) rfl (by kernel_rfl) (by kernel_rfl) (by kernel_rfl) (fun _ _ _ h => h) (Or.inl ⟨by rfl, ?_⟩) hHeld2 ?_
        rotate_left
        · (intro w hSw; obtain ⟨s5, s6, s7⟩ := hSw; clear s5; go_simp; try with_reducible rfl)
        simp only [Act.put, List.setIfInBounds_toArray, List.set_cons_zero, List.set_cons_succ]
        refine wpAnyH_take (i := 11) (oi := _) (v := ?_) rfl (by kernel_rfl) (by kernel_rfl) (by kernel_rfl) (fun _ _ _ h => h) (Or.inl ⟨by rfl, ?_⟩) hHeld2 ?_
        rotate_left
        · (intro w hSw; obtain ⟨s5, s6, s7⟩ := hSw; clear s5; go_simp; try with_reducible rfl)
        simp only [Act.put, List.setIfInBounds_toArray, List.set_cons_zero, List.set_cons_succ]
        refine wpAnyH_take (i := 12) (oi := _) (v := ?_) rfl (by kernel_rfl) (by kernel_rfl) (by kernel_rfl) (fun _ _ _ h => h) (Or.inl ⟨by rfl, ?_⟩) hHeld2 ?_
        rotate_left
        · (intro w hSw; obtain ⟨s5, s6, s7⟩ := hSw; clear s5; go_simp; try with_reducible rfl)
        simp only [Act.put, List.setIfInBounds_toArray, List.set_cons_zero, List.set_cons_succ]
        refine wpAnyH_take (i := 13) (oi := _) (v := ?_) rfl (by kernel_rfl) (by kernel_rfl) (by kernel_rfl) (fun _ _ _ h => h) (Or.inl ⟨by rfl, ?_⟩) hHeld2 ?_
        rotate_left
        · (intro w hSw; obtain ⟨s5, s6, s7⟩ := hSw; clear s5; go_simp; try with_reducible rfl)
        simp only [Act.put, List.setIfInBounds_toArray, List.set_cons_zero, List.set_cons_succ]
        refine wpAnyH_take (i := 14) (oi := _) (v := ?_) rfl (by kernel_rfl) (by kernel_rfl) (by kernel_rfl) (fun _ _ _ h => h) (Or.inl ⟨by rfl, ?_⟩) hHeld2 ?_
        rotate_left
        · (intro w hSw; obtain ⟨s5, s6, s7⟩ := hSw; clear s5; go_simp; try with_reducible rfl)
        simp only [Act.put, List.setIfInBounds_toArray, List.set_cons_zero, List.set_cons_succ]
        refine wpAnyH_ready (rs := [10]) (by kernel_rfl) (by simp) ?_
        refine AllReadyH.cons (o := _) rfl (fun K hK => ?_) AllReadyH.nil
        go_simp
        refine (oout_any _ _ _ _ _ _ HO3.out).mono ?_
        rintro e6 W4 ⟨v6, rfl, o6, g6⟩
        have s6 := Sl.of_own o6
        obtain ⟨a6, c6, rfl⟩ := bs_len s6
        have sq4 := sq.grew g6
        have hO4 := HO3.out.grew g6
        have hR4 := HR3.out.grew g6
        have hg4 := Grew.trans hg3 g6
        have x0 := (below_ext g6) _ _ z0
        have x1 := (below_ext g6) _ _ z1
        have x2 := (below_ext g6) _ _ z2
        have x3 := (below_ext g6) _ _ z3
        have x4 := (below_ext g6) _ _ z4
        have u0 := (below_ext g6) _ _ y0
        have u1 := (below_ext g6) _ _ y1
        have KS := fun (n : Nat) => same_any b' b' _ _ _ (s6.drew n) (sq4.drew n)
        simp only [beq_self_eq_true] at KS
        have HKS := Lib.hid KS
        have HO4 := Lib.hid hO4
        have hlen' : b'.length ≤ m := hlq
        have hsub : ((m - b'.length : Nat) : Int) = (m : Int) - (b'.length : Int) := by omega
        have hwr : IntKind.i64.wrap ((m : Int) - (b'.length : Int)) = (m : Int) - (b'.length : Int) := IntWalk.i64_in _ (by omega)
        clear z0 z1 z2 z3 z4 y0 y1 KS hO4 o6 s6 sq sq4 hHeld2
        go_simp
        refine hK.out _ _ ⟨⟨x0, x1, x2, x3, x4⟩, u0, u1⟩ (fun _ => ?_)
        clear hK K
        (try simp only [Act.put, List.setIfInBounds_toArray, List.set_cons_zero, List.set_cons_succ])
        refine wpAnyH_tail 15 rfl (by kernel_rfl) (by kernel_rfl) (fun m' => ⟨⟨by simpa using x0, by simpa using x1, by simpa using x2, by simpa using x3, by simpa using x4⟩, by simpa using u0, by simpa using u1⟩) ?_
        simp only [List.drop_succ_cons, List.drop_zero]
        repeat (go_big_quiet_step ((first | (go_at_call 15; exact quiet_drew (HKS.out _)) | (go_at_call 17; exact quiet_drew (oleft_any _ _ _ _ _ _ (HO4.out.grew (Drew.grew ⟨_, rfl⟩)))))))
        refine wpQuiet_nil ?_
        rintro _ ⟨nq, rfl⟩
        clear x0 x1 x2 x3 x4 u0 u1 hsub hwr
        go_wp2
        go_roundw
        case rel => exact ⟨k + 1, b', F3, FQ, by omega, by go_num, HO4.out.grew (Drew.grew ⟨_, rfl⟩), hR4.grew (Drew.grew ⟨_, rfl⟩), hFF3, Grew.trans hg4 (Drew.grew ⟨_, rfl⟩)⟩
        case measure => simp [intOf]; omega
      · simp only [ne_eq, her, not_false_eq_true, if_true] at kd'
        have KD := Lib.hid kd'
        have hne : ((er : Int) == 0) = false := by simp; omega
        clear kd' her
        go_wp2_with fail
        refine KB.out.mono ?_
        rintro e w5 ⟨v5, rfl, s5, g5⟩
        obtain ⟨a5, c5, rfl⟩ := bs_len s5
        replace hg := Grew.trans hg g5
        replace hO := hO.grew g5
        replace hR := hR.grew g5
        replace hokW := hokW.grew g5
        have e0 := (below_ext hg) _ _ d0
        have e1 := (below_ext hg) _ _ d1
        have e2 := (below_ext hg) _ _ d2
        have e3 := (below_ext hg) _ _ d3
        have e4 := (below_ext hg) _ _ d4
        clear g5 s5 KB
        obtain ⟨FQ, hFQ⟩ : ∃ FQ, F' = FQ := ⟨_, rfl⟩
        rw [hFQ] at hFF hR
        clear hFQ
        go_wp2
        refine wp_region_held_drew (S := fun W => W.cell? ⟨b0, off + k * 5, none⟩ = some (.int .u8 kd) ∧ W.cell? ⟨b0, off + k * 5 + 1, none⟩ = some (.int .u64 n) ∧ W.cell? ⟨b0, off + k * 5 + 2, none⟩ = some (.int .i64 num) ∧ W.cell? ⟨b0, off + k * 5 + 3, none⟩ = some (.int .u8 wire) ∧ W.cell? ⟨b0, off + k * 5 + 4, none⟩ = some (.slice av B.length cv)) (by kernel_rfl) ⟨e0, e1, e2, e3, e4⟩ (fun hHeld => ?_)
        refine wpAnyH_take (i := 0) (oi := _) (v := ?_) rfl (by kernel_rfl) (by kernel_rfl) (by kernel_rfl) (fun _ _ _ h => h) (Or.inl ⟨by rfl, ?_⟩) (by assumption) ?_
        rotate_left
        · (intro w hSw; obtain ⟨s0, s1, s2, s3, s4⟩ := hSw; go_simp; try with_reducible rfl)
        simp only [Act.put, List.setIfInBounds_toArray, List.set_cons_zero, List.set_cons_succ]
        refine wpAnyH_take (i := 1) (oi := _) (v := ?_) rfl (by kernel_rfl) (by kernel_rfl) (by kernel_rfl) (fun _ _ _ h => h) (Or.inl ⟨by rfl, ?_⟩) (by assumption) ?_
        rotate_left
        · (intro w hSw; obtain ⟨s0, s1, s2, s3, s4⟩ := hSw; go_simp; try with_reducible rfl)
        simp only [Act.put, List.setIfInBounds_toArray, List.set_cons_zero, List.set_cons_succ]
        refine wpAnyH_take (i := 2) (oi := _) (v := ?_) rfl (by kernel_rfl) (by kernel_rfl) (by kernel_rfl) (fun _ _ _ h => h) (Or.inl ⟨by rfl, ?_⟩) (by assumption) ?_
        rotate_left
        · (intro w hSw; obtain ⟨s0, s1, s2, s3, s4⟩ := hSw; go_simp; try with_reducible rfl)
        simp only [Act.put, List.setIfInBounds_toArray, List.set_cons_zero, List.set_cons_succ]
        refine wpAnyH_take (i := 3) (oi := _) (v := ?_) rfl (by kernel_rfl) (by kernel_rfl) (by kernel_rfl) (fun _ _ _ h => h) (Or.inl ⟨by rfl, ?_⟩) (by assumption) ?_
        rotate_left
        · (intro w hSw; obtain ⟨s0, s1, s2, s3, s4⟩ := hSw; go_simp; try with_reducible rfl)
        simp only [Act.put, List.setIfInBounds_toArray, List.set_cons_zero, List.set_cons_succ]
        refine wpAnyH_take (i := 4) (oi := _) (v := ?_) rfl (by kernel_rfl) (by kernel_rfl) (by kernel_rfl) (fun _ _ _ h => h) (Or.inl ⟨by rfl, ?_⟩) (by assumption) ?_
        rotate_left
        · (intro w hSw; obtain ⟨s0, s1, s2, s3, s4⟩ := hSw; go_simp; try with_reducible rfl)
        simp only [Act.put, List.setIfInBounds_toArray, List.set_cons_zero, List.set_cons_succ]
        refine wpAnyH_take (i := 6) (oi := _) (v := ?_) rfl (by kernel_rfl) (by kernel_rfl) (by kernel_rfl) (fun _ _ _ h => h) (Or.inl ⟨by rfl, ?_⟩) (by assumption) ?_
        rotate_left
        · (intro w hSw; obtain ⟨s0, s1, s2, s3, s4⟩ := hSw; go_simp; try with_reducible rfl)
        simp only [Act.put, List.setIfInBounds_toArray, List.set_cons_zero, List.set_cons_succ]
        refine wpAnyH_ready (rs := [5]) (by kernel_rfl) (by simp) ?_
        refine AllReadyH.cons (o := _) rfl (fun K hK => ?_) AllReadyH.nil
        go_simp
        refine (KD.out _ (hO.grew (Drew.grew ⟨1, rfl⟩)) (hokW.grew (Drew.grew ⟨1, rfl⟩))).mono ?_
        rintro e5 W3 ⟨rfl, F3, hO3, hf3, hn3⟩
        have hR3 := (hR.grew (Drew.grew (⟨1, rfl⟩ : Drew _ _))).fr hf3 (fun k hk hk' => hFF k hk' hk)
        have hg3 : Grew w W3 := hf3.grew (Grew.trans hg (Drew.grew ⟨1, rfl⟩)) (fun i e => Nat.le_trans hbs (hO.own i e).1)
        have hFF3 : ∀ k, F3 k → ¬ FQ k := fun k hk hk' => by
          rcases hn3 k hk with h | h
          · exact hFF k h hk'
          · have := (hR.own k hk').2; simp at h; omega
        have z0 := (below_ext hg3) _ _ d0
        have z1 := (below_ext hg3) _ _ d1
        have z2 := (below_ext hg3) _ _ d2
        have z3 := (below_ext hg3) _ _ d3
        have z4 := (below_ext hg3) _ _ d4
        obtain ⟨vq, hbq, hoq, hlq, hmq, hpq, hFq⟩ := id hR3
        have sq := Sl.of_own hoq
        obtain ⟨aq, cq, rfl⟩ := bs_len sq
        obtain ⟨y0, y1, -, -⟩ := cells_of' hbq
        have HO3 := Lib.hid hO3
        have HR3 := Lib.hid hR3
        have HFQ := Lib.hid hFq
        clear e0 e1 e2 e3 e4 hO hR hg hFF hf3 hn3 KD hHeld hFq hO3 hR3 hoq hokW
        go_simp
        refine hK.out _ _ ⟨z0, z1, z2, z3, z4⟩ (fun _ => ?_)
        clear hK K
        (try simp only [Act.put, List.setIfInBounds_toArray, List.set_cons_zero, List.set_cons_succ])
        have hHeld2 : (fun W => W.cell? ⟨b0, off + k * 5, none⟩ = some (.int .u8 kd) ∧ W.cell? ⟨b0, off + k * 5 + 1, none⟩ = some (.int .u64 n) ∧ W.cell? ⟨b0, off + k * 5 + 2, none⟩ = some (.int .i64 num) ∧ W.cell? ⟨b0, off + k * 5 + 3, none⟩ = some (.int .u8 wire) ∧ W.cell? ⟨b0, off + k * 5 + 4, none⟩ = some (.slice av B.length cv)) W3 ∧ W3.cell? ⟨q, 0, none⟩ = some (.slice aq b.length cq) ∧ W3.cell? ⟨q, 1, none⟩ = some (.int .i64 m) := ⟨⟨z0, z1, z2, z3, z4⟩, y0, y1⟩
        refine wpAnyH_weaken (S' := fun W => (fun W => W.cell? ⟨b0, off + k * 5, none⟩ = some (.int .u8 kd) ∧ W.cell? ⟨b0, off + k * 5 + 1, none⟩ = some (.int .u64 n) ∧ W.cell? ⟨b0, off + k * 5 + 2, none⟩ = some (.int .i64 num) ∧ W.cell? ⟨b0, off + k * 5 + 3, none⟩ = some (.int .u8 wire) ∧ W.cell? ⟨b0, off + k * 5 + 4, none⟩ = some (.slice av B.length cv)) W ∧ W.cell? ⟨q, 0, none⟩ = some (.slice aq b.length cq) ∧ W.cell? ⟨q, 1, none⟩ = some (.int .i64 m)) (fun W h => h.1) ?_
        refine wpAnyH_take (i := 7) (oi := _) (v := ?_) rfl (by kernel_rfl) (by kernel_rfl) (by kernel_rfl) (fun _ _ _ h => h) (Or.inl ⟨by rfl, ?_⟩) hHeld2 ?_
        rotate_left
        · (intro w hSw; obtain ⟨s5, s6, s7⟩ := hSw; clear s5; go_simp; try with_reducible rfl)
        simp only [Act.put, List.setIfInBounds_toArray, List.set_cons_zero, List.set_cons_succ]
        refine wpAnyH_take (i := 8) (oi := _) (v := ?_) rfl (by kernel_rfl) (by kernel_rfl) (by kernel_rfl) (fun _ _ _ h => h) (Or.inl ⟨by rfl, ?_⟩) hHeld2 ?_
        rotate_left
        · (intro w hSw; obtain ⟨s5, s6, s7⟩ := hSw; clear s5; go_simp; try with_reducible rfl)
        simp only [Act.put, List.setIfInBounds_toArray, List.set_cons_zero, List.set_cons_succ]
        refine wpAnyH_take (i := 9) (oi := _) (v := ?_) rfl (by kernel_rfl) (by kernel_rfl) (by kernel_rfl) (fun _ _ _ h => h) (Or.inl ⟨by rfl, ?_⟩) hHeld2 ?_
        rotate_left
        · (intro w hSw; obtain ⟨s5, s6, s7⟩ := hSw; clear s5; go_simp; try with_reducible rfl)
        simp only [Act.put, List.setIfInBounds_toArray, List.set_cons_zero, List.set_cons_succ]
        refine wpAnyH_take (i := 11) (oi := _) (v := ?_) rfl (by kernel_rfl) (by kernel_rfl) (by kernel_rfl) (fun _ _ _ h => h) (Or.inl ⟨by rfl, ?_⟩) hHeld2 ?_
        rotate_left
        · (intro w hSw; obtain ⟨s5, s6, s7⟩ := hSw; clear s5; go_simp; try with_reducible rfl)
        simp only [Act.put, List.setIfInBounds_toArray, List.set_cons_zero, List.set_cons_succ]
        refine wpAnyH_take (i := 12) (oi := _) (v := ?_) rfl (by kernel_rfl) (by kernel_rfl) (by kernel_rfl) (fun _ _ _ h => h) (Or.inl ⟨by rfl, ?_⟩) hHeld2 ?_
        rotate_left
        · (intro w hSw; obtain ⟨s5, s6, s7⟩ := hSw; clear s5; go_simp; try with_reducible rfl)
        simp only [Act.put, List.setIfInBounds_toArray, List.set_cons_zero, List.set_cons_succ]
        refine wpAnyH_take (i := 13) (oi := _) (v := ?_) rfl (by kernel_rfl) (by kernel_rfl) (by kernel_rfl) (fun _ _ _ h => h) (Or.inl ⟨by rfl, ?_⟩) hHeld2 ?_
        rotate_left
        · (intro w hSw; obtain ⟨s5, s6, s7⟩ := hSw; clear s5; go_simp; try with_reducible rfl)
        simp only [Act.put, List.setIfInBounds_toArray, List.set_cons_zero, List.set_cons_succ]
        refine wpAnyH_take (i := 14) (oi := _) (v := ?_) rfl (by kernel_rfl) (by kernel_rfl) (by kernel_rfl) (fun _ _ _ h => h) (Or.inl ⟨by rfl, ?_⟩) hHeld2 ?_
        rotate_left
        · (intro w hSw; obtain ⟨s5, s6, s7⟩ := hSw; clear s5; go_simp; try with_reducible rfl)
        simp only [Act.put, List.setIfInBounds_toArray, List.set_cons_zero, List.set_cons_succ]
        refine wpAnyH_ready (rs := [10]) (by kernel_rfl) (by simp) ?_
        refine AllReadyH.cons (o := _) rfl (fun K hK => ?_) AllReadyH.nil
        go_simp
        refine (oout_any _ _ _ _ _ _ HO3.out).mono ?_
        rintro e6 W4 ⟨v6, rfl, o6, g6⟩
        have s6 := Sl.of_own o6
        obtain ⟨a6, c6, rfl⟩ := bs_len s6
        have sq4 := sq.grew g6
        have hO4 := HO3.out.grew g6
        have hR4 := HR3.out.grew g6
        have hg4 := Grew.trans hg3 g6
        have x0 := (below_ext g6) _ _ z0
        have x1 := (below_ext g6) _ _ z1
        have x2 := (below_ext g6) _ _ z2
        have x3 := (below_ext g6) _ _ z3
        have x4 := (below_ext g6) _ _ z4
        have u0 := (below_ext g6) _ _ y0
        have u1 := (below_ext g6) _ _ y1
        have KS := fun (n : Nat) => same_any b b _ _ _ (s6.drew n) (sq4.drew n)
        simp only [beq_self_eq_true] at KS
        have HKS := Lib.hid KS
        have HO4 := Lib.hid hO4
        have hlen' : b.length ≤ m := hlq
        have hsub : ((m - b.length : Nat) : Int) = (m : Int) - (b.length : Int) := by omega
        have hwr : IntKind.i64.wrap ((m : Int) - (b.length : Int)) = (m : Int) - (b.length : Int) := IntWalk.i64_in _ (by omega)
        clear z0 z1 z2 z3 z4 y0 y1 KS hO4 o6 s6 sq sq4 hHeld2
        go_simp
        refine hK.out _ _ ⟨⟨x0, x1, x2, x3, x4⟩, u0, u1⟩ (fun _ => ?_)
        clear hK K
        (try simp only [Act.put, List.setIfInBounds_toArray, List.set_cons_zero, List.set_cons_succ])
        refine wpAnyH_tail 15 rfl (by kernel_rfl) (by kernel_rfl) (fun m' => ⟨⟨by simpa using x0, by simpa using x1, by simpa using x2, by simpa using x3, by simpa using x4⟩, by simpa using u0, by simpa using u1⟩) ?_
        simp only [List.drop_succ_cons, List.drop_zero]
        repeat (go_big_quiet_step ((first | (go_at_call 15; exact quiet_drew (HKS.out _)) | (go_at_call 17; exact quiet_drew (oleft_any _ _ _ _ _ _ (HO4.out.grew (Drew.grew ⟨_, rfl⟩)))))))
        refine wpQuiet_nil ?_
        rintro _ ⟨nq, rfl⟩
        clear x0 x1 x2 x3 x4 u0 u1 hsub hwr
        go_wp2
        go_roundw
        case rel => exact ⟨k + 1, b, F3, FQ, by omega, by go_num, HO4.out.grew (Drew.grew ⟨_, rfl⟩), hR4.grew (Drew.grew ⟨_, rfl⟩), hFF3, Grew.trans hg4 (Drew.grew ⟨_, rfl⟩)⟩
        case measure => simp [intOf]; omega
    · obtain rfl : k = A.length := by omega
      go_wp2
      go_ret
      exact ⟨rfl, hg⟩
end Go.Proofs.Ytakogncnkbgkfaa
