/- The law StreamDoes returns true: its walk. -/
import Derived.Test.YtoinndlialimcaaStS
import Derived.Test.YtoinndlialimcaaSt1
namespace Go.Proofs.Ytoinndlialimcaa
open Go Go.RowKit Go.Shelf

/-- numbers of an edit as they may be -/
def Ed.nums (e : Ed) : Prop := (-9223372036854775808 ≤ e.kind ∧ e.kind ≤ 9223372036854775807) ∧ (-9223372036854775808 ≤ e.at' ∧ e.at' ≤ 9223372036854775807) ∧ (-9223372036854775808 ≤ e.n ∧ e.n ≤ 9223372036854775807) ∧ (-9223372036854775808 ≤ e.to ∧ e.to ≤ 9223372036854775807)
theorem ed_cells {W : World} {a : Option Addr} {c : Nat} {A : List EA} (h : Sl W (.slice a A.length c) A.length 5 (A.flatMap edv)) : 0 < A.length → ∃ b off, a = some ⟨b, off, none⟩ ∧ ∀ j (hj : j < A.length), W.cell? ⟨b, off + j * 5, none⟩ = some (.int .i64 A[j].1.kind) ∧ W.cell? ⟨b, off + j * 5 + 1, none⟩ = some (.int .i64 A[j].1.at') ∧
    W.cell? ⟨b, off + j * 5 + 2, none⟩ = some (.int .i64 A[j].1.n) ∧ W.cell? ⟨b, off + j * 5 + 3, none⟩ = some (.int .i64 A[j].1.to) ∧ W.cell? ⟨b, off + j * 5 + 4, none⟩ = some A[j].2 := by
  intro hl
  obtain ⟨a', c', e, _, _, _, h4⟩ := h.open
  cases e
  obtain ⟨b, o, rfl, hc⟩ := h4 (by omega)
  refine ⟨b, o, rfl, fun j hj => ?_⟩
  have g := fun i hi => flat_at (f := edv) (k := 5) (fun _ => rfl) A j hj i hi
  have g0 := hc (j * 5) _ (g 0 (by omega))
  have g1 := hc (j * 5 + 1) _ (g 1 (by omega))
  have g2 := hc (j * 5 + 2) _ (g 2 (by omega))
  have g3 := hc (j * 5 + 3) _ (g 3 (by omega))
  have g4 := hc (j * 5 + 4) _ (g 4 (by omega))
  simp only [← Nat.add_assoc] at g0 g1 g2 g3 g4
  exact ⟨g0, g1, g2, g3, g4⟩
set_option maxRecDepth 100000 in
set_option maxHeartbeats 8000000 in
theorem sdoes_walk (A : List EA) (l : List UInt8) (v u : Value) (w : World) (hb : Bs w v l) (h : Sl w u A.length 5 (A.flatMap edv)) (hA : ∀ x ∈ A, Bs w x.2 x.1.bytes ∧ x.1.nums) :
    Calls Try.prog 3 #[v, u] w fun e w' => e = .returned (.bool true) ∧ Grew w w' := by
  obtain ⟨a, c, rfl, q1, q2, -, -⟩ := hb.open
  obtain ⟨ua, uc, rfl, u1, u2, -, -⟩ := h.open
  unfold maxLen at q2 u2
  by_cases hl : 500 < l.length
  · clear hb h hA
    go_enter Try.func3, Try.ntmps3
    go_wp2_with fail
    refine (live16_any _).mono ?_
    rintro e w1 ⟨rfl, g1⟩
    go_wp2
    go_ret
    exact ⟨rfl, g1⟩
  have hl' : l.length ≤ 500 := by omega
  by_cases hq : 8 < A.length
  · clear hb h hA hl
    go_enter Try.func3, Try.ntmps3
    go_wp2_with fail
    refine (live16_any _).mono ?_
    rintro e w1 ⟨rfl, g1⟩
    go_wp2
    go_ret
    exact ⟨rfl, g1⟩
  have hq' : A.length ≤ 8 := by omega
  have HB := Lib.hid hb
  have HE := Lib.hid h
  have HA := Lib.hid hA
  clear hl hq hb h hA
  go_enter Try.func3, Try.ntmps3
  go_wp2_with fail
  refine (live16_any _).mono ?_
  rintro e w1 ⟨rfl, g1⟩
  go_wp2_with fail
  go_loopw [5, 6] (fun vo i wr => ∃ k : Nat, k ≤ A.length ∧ i = .int .i64 k ∧ Bs wr vo (doM l ((A.map (·.1)).take k)) ∧ RowKit.Hid (∀ j (hj : j < A.length), j < k → A[j].1.bytes.length ≤ 200) ∧ Grew w1 wr) (fun _ i _ => A.length - (intOf i).toNat)
  case atStart => exact ⟨0, Nat.zero_le _, rfl, HB.out.grew g1, Lib.hid fun j _ hj => absurd hj (Nat.not_lt_zero j), Below.refl _ _⟩
  case round =>
    obtain ⟨k, hk, rfl, hvo, hno, hG⟩ := hrel
    by_cases hlt : k < A.length
    · obtain ⟨b1, o1, rfl, hcl⟩ := ed_cells (HE.out.grew (g1.trans hG)) (by omega)
      obtain ⟨x0, x1, x2, x3, x4⟩ := hcl k hlt
      obtain ⟨x5, x6⟩ := HA.out A[k] (List.getElem_mem hlt)
      have hlk : k < (A.map (·.1)).length := by rw [List.length_map]; exact hlt
      have hs : (A.map (·.1)).take (k + 1) = (A.map (·.1)).take k ++ [A[k].1] := by rw [List.take_succ_eq_append_getElem hlk]; simp
      have hdl := doM_len l ((A.map (·.1)).take k) (by omega)
      obtain ⟨D, hD⟩ : ∃ D, D = doM l ((A.map (·.1)).take k) := ⟨_, rfl⟩
      have hs2 : doM l ((A.map (·.1)).take (k + 1)) = (oneM D A[k].1).take 1048576 := by rw [hs, doM_snoc, hD]
      have hno2 : A[k].1.bytes.length ≤ 200 → RowKit.Hid (∀ j (hj : j < A.length), j < k + 1 → A[j].1.bytes.length ≤ 200) := by
        intro h6
        refine Lib.hid fun j hj hjk => ?_
        by_cases h7 : j < k
        · exact hno.out j hj h7
        · obtain rfl : j = k := by omega
          exact h6
      rw [← hD] at hvo hdl
      generalize A[k].1 = e at x0 x1 x2 x3 x5 x6 hs2 hno2
      generalize A[k].2 = ve at x4 x5
      obtain ⟨xa, xc, rfl⟩ := bs_len x5
      obtain ⟨oa, oc, rfl⟩ := bs_len hvo
      have HS2 := Lib.hid hs2
      have HNO := Lib.hid hno2
      have z0 : (0 : Int) ≤ (k : Int) := by omega
      have z1 : (k : Int) < (A.length : Int) := by omega
      have hgw := g1.trans hG
      clear hcl hs hs2 hno2 hD hlk hno
      by_cases h3 : 200 < e.bytes.length
      · go_wp2
        go_ret
        exact ⟨rfl, hgw⟩
      have h3' : (e.bytes.length : Int) ≤ 200 := by omega
      have hok : e.ok := ⟨x6.1, x6.2.1, x6.2.2.1, x6.2.2.2, by omega⟩
      have gd : Grew wr wr.drew := Drew.grew ⟨1, rfl⟩
      have KO := Lib.hid (r16one_any D e _ _ wr.drew (hvo.grew gd) (x5.grew (hgw.trans gd)) hok hdl)
      have hno3 := HNO.out (by omega)
      clear hvo x5 x6 hok HNO h3
      go_wp2_with fail
      refine wp_region_held_drew (S := fun W => W.cell? ⟨b1, o1 + k * 5, none⟩ = some (.int .i64 e.kind) ∧ W.cell? ⟨b1, o1 + k * 5 + 1, none⟩ = some (.int .i64 e.at') ∧ W.cell? ⟨b1, o1 + k * 5 + 2, none⟩ = some (.int .i64 e.n) ∧ W.cell? ⟨b1, o1 + k * 5 + 3, none⟩ = some (.int .i64 e.to) ∧ W.cell? ⟨b1, o1 + k * 5 + 4, none⟩ = some (.slice xa e.bytes.length xc)) (by kernel_rfl) ⟨x0, x1, x2, x3, x4⟩ (fun hHeld => ?_)
      refine wpAnyH_take (i := 0) (oi := _) (v := ?_) rfl (by kernel_rfl) (by kernel_rfl) (by kernel_rfl) (fun _ _ _ h => h) (Or.inl ⟨by rfl, ?_⟩) (by assumption) ?_
      rotate_left
      · (intro W hSw; obtain ⟨y0, y1, y2, y3, y4⟩ := hSw; go_simp; try with_reducible rfl)
      (try simp only [Act.put, List.setIfInBounds_toArray])
      refine wpAnyH_take (i := 1) (oi := _) (v := ?_) rfl (by kernel_rfl) (by kernel_rfl) (by kernel_rfl) (fun _ _ _ h => h) (Or.inl ⟨by rfl, ?_⟩) (by assumption) ?_
      rotate_left
      · (intro W hSw; obtain ⟨y0, y1, y2, y3, y4⟩ := hSw; go_simp; try with_reducible rfl)
      (try simp only [Act.put])
      refine wpAnyH_take (i := 2) (oi := _) (v := ?_) rfl (by kernel_rfl) (by kernel_rfl) (by kernel_rfl) (fun _ _ _ h => h) (Or.inl ⟨by rfl, ?_⟩) (by assumption) ?_
      rotate_left
      · (intro W hSw; obtain ⟨y0, y1, y2, y3, y4⟩ := hSw; go_simp; try with_reducible rfl)
      (try simp only [Act.put])
      refine wpAnyH_take (i := 3) (oi := _) (v := ?_) rfl (by kernel_rfl) (by kernel_rfl) (by kernel_rfl) (fun _ _ _ h => h) (Or.inl ⟨by rfl, ?_⟩) (by assumption) ?_
      rotate_left
      · (intro W hSw; obtain ⟨y0, y1, y2, y3, y4⟩ := hSw; go_simp; try with_reducible rfl)
      (try simp only [Act.put])
      refine wpAnyH_take (i := 4) (oi := _) (v := ?_) rfl (by kernel_rfl) (by kernel_rfl) (by kernel_rfl) (fun _ _ _ h => h) (Or.inl ⟨by rfl, ?_⟩) (by assumption) ?_
      rotate_left
      · (intro W hSw; obtain ⟨y0, y1, y2, y3, y4⟩ := hSw; go_simp; try with_reducible rfl)
      (try simp only [Act.put])
      refine wpAnyH_take (i := 5) (oi := _) (v := ?_) rfl (by kernel_rfl) (by kernel_rfl) (by kernel_rfl) (fun _ _ _ h => h) (Or.inl ⟨by rfl, ?_⟩) (by assumption) ?_
      rotate_left
      · (intro W hSw; obtain ⟨y0, y1, y2, y3, y4⟩ := hSw; go_simp; try with_reducible rfl)
      (try simp only [Act.put])
      refine wpAnyH_take (i := 6) (oi := _) (v := ?_) rfl (by kernel_rfl) (by kernel_rfl) (by kernel_rfl) (fun _ _ _ h => h) (Or.inl ⟨by rfl, ?_⟩) (by assumption) ?_
      rotate_left
      · (intro W hSw; obtain ⟨y0, y1, y2, y3, y4⟩ := hSw; go_simp; try with_reducible rfl)
      (try simp only [Act.put])
      refine wpAnyH_take (i := 7) (oi := _) (v := ?_) rfl (by kernel_rfl) (by kernel_rfl) (by kernel_rfl) (fun _ _ _ h => h) (Or.inl ⟨by rfl, ?_⟩) (by assumption) ?_
      rotate_left
      · (intro W hSw; obtain ⟨y0, y1, y2, y3, y4⟩ := hSw; go_simp; try with_reducible rfl)
      (try simp only [Act.put])
      refine wpAnyH_take (i := 8) (oi := _) (v := ?_) rfl (by kernel_rfl) (by kernel_rfl) (by kernel_rfl) (fun _ _ _ h => h) (Or.inl ⟨by rfl, ?_⟩) (by assumption) ?_
      rotate_left
      · (intro W hSw; obtain ⟨y0, y1, y2, y3, y4⟩ := hSw; go_simp; try with_reducible rfl)
      (try simp only [Act.put])
      refine wpAnyH_take (i := 9) (oi := _) (v := ?_) rfl (by kernel_rfl) (by kernel_rfl) (by kernel_rfl) (fun _ _ _ h => h) (Or.inl ⟨by rfl, ?_⟩) (by assumption) ?_
      rotate_left
      · (intro W hSw; obtain ⟨y0, y1, y2, y3, y4⟩ := hSw; go_simp; try with_reducible rfl)
      (try simp only [Act.put])
      refine wpAnyH_take (i := 10) (oi := _) (v := ?_) rfl (by kernel_rfl) (by kernel_rfl) (by kernel_rfl) (fun _ _ _ h => h) (Or.inl ⟨by rfl, ?_⟩) (by assumption) ?_
      rotate_left
      · (intro W hSw; obtain ⟨y0, y1, y2, y3, y4⟩ := hSw; go_simp; try with_reducible rfl)
      (try simp only [Act.put])
      refine wpAnyH_take (i := 11) (oi := _) (v := ?_) rfl (by kernel_rfl) (by kernel_rfl) (by kernel_rfl) (fun _ _ _ h => h) (Or.inl ⟨by rfl, ?_⟩) (by assumption) ?_
      rotate_left
      · (intro W hSw; obtain ⟨y0, y1, y2, y3, y4⟩ := hSw; go_simp; try with_reducible rfl)
      (try simp only [Act.put])
      refine wpAnyH_take (i := 12) (oi := _) (v := ?_) rfl (by kernel_rfl) (by kernel_rfl) (by kernel_rfl) (fun _ _ _ h => h) (Or.inl ⟨by rfl, ?_⟩) (by assumption) ?_
      rotate_left
      · (intro W hSw; obtain ⟨y0, y1, y2, y3, y4⟩ := hSw; go_simp; try with_reducible rfl)
      (try simp only [Act.put])
      refine wpAnyH_take (i := 13) (oi := _) (v := ?_) rfl (by kernel_rfl) (by kernel_rfl) (by kernel_rfl) (fun _ _ _ h => h) (Or.inl ⟨by rfl, ?_⟩) (by assumption) ?_
      rotate_left
      · (intro W hSw; obtain ⟨y0, y1, y2, y3, y4⟩ := hSw; go_simp; try with_reducible rfl)
      (try simp only [Act.put])
      refine wpAnyH_take (i := 14) (oi := _) (v := ?_) rfl (by kernel_rfl) (by kernel_rfl) (by kernel_rfl) (fun _ _ _ h => h) (Or.inl ⟨by rfl, ?_⟩) (by assumption) ?_
      rotate_left
      · (intro W hSw; obtain ⟨y0, y1, y2, y3, y4⟩ := hSw; go_simp; try with_reducible rfl)
      (try simp only [Act.put])
      refine wpAnyH_take (i := 15) (oi := _) (v := ?_) rfl (by kernel_rfl) (by kernel_rfl) (by kernel_rfl) (fun _ _ _ h => h) (Or.inl ⟨by rfl, ?_⟩) (by assumption) ?_
      rotate_left
      · (intro W hSw; obtain ⟨y0, y1, y2, y3, y4⟩ := hSw; go_simp; try with_reducible rfl)
      (try simp only [Act.put])
      refine wpAnyH_take (i := 16) (oi := _) (v := ?_) rfl (by kernel_rfl) (by kernel_rfl) (by kernel_rfl) (fun _ _ _ h => h) (Or.inl ⟨by rfl, ?_⟩) (by assumption) ?_
      rotate_left
      · (intro W hSw; obtain ⟨y0, y1, y2, y3, y4⟩ := hSw; go_simp; try with_reducible rfl)
      (try simp only [Act.put])
      refine wpAnyH_take (i := 17) (oi := _) (v := ?_) rfl (by kernel_rfl) (by kernel_rfl) (by kernel_rfl) (fun _ _ _ h => h) (Or.inl ⟨by rfl, ?_⟩) (by assumption) ?_
      rotate_left
      · (intro W hSw; obtain ⟨y0, y1, y2, y3, y4⟩ := hSw; go_simp; try with_reducible rfl)
      (try simp only [Act.put])
      refine wpAnyH_take (i := 18) (oi := _) (v := ?_) rfl (by kernel_rfl) (by kernel_rfl) (by kernel_rfl) (fun _ _ _ h => h) (Or.inl ⟨by rfl, ?_⟩) (by assumption) ?_
      rotate_left
      · (intro W hSw; obtain ⟨y0, y1, y2, y3, y4⟩ := hSw; go_simp; try with_reducible rfl)
      (try simp only [Act.put])
      refine wpAnyH_take (i := 19) (oi := _) (v := ?_) rfl (by kernel_rfl) (by kernel_rfl) (by kernel_rfl) (fun _ _ _ h => h) (Or.inl ⟨by rfl, ?_⟩) (by assumption) ?_
      rotate_left
      · (intro W hSw; obtain ⟨y0, y1, y2, y3, y4⟩ := hSw; go_simp; try with_reducible rfl)
      (try simp only [Act.put])
      refine wpAnyH_take (i := 20) (oi := _) (v := ?_) rfl (by kernel_rfl) (by kernel_rfl) (by kernel_rfl) (fun _ _ _ h => h) (Or.inl ⟨by rfl, ?_⟩) (by assumption) ?_
      rotate_left
      · (intro W hSw; obtain ⟨y0, y1, y2, y3, y4⟩ := hSw; go_simp; try with_reducible rfl)
      (try simp only [Act.put])
      refine wpAnyH_take (i := 21) (oi := _) (v := ?_) rfl (by kernel_rfl) (by kernel_rfl) (by kernel_rfl) (fun _ _ _ h => h) (Or.inl ⟨by rfl, ?_⟩) (by assumption) ?_
      rotate_left
      · (intro W hSw; obtain ⟨y0, y1, y2, y3, y4⟩ := hSw; go_simp; try with_reducible rfl)
      (try simp only [Act.put])
      refine wpAnyH_take (i := 22) (oi := _) (v := ?_) rfl (by kernel_rfl) (by kernel_rfl) (by kernel_rfl) (fun _ _ _ h => h) (Or.inl ⟨by rfl, ?_⟩) (by assumption) ?_
      rotate_left
      · (intro W hSw; obtain ⟨y0, y1, y2, y3, y4⟩ := hSw; go_simp; try with_reducible rfl)
      (try simp only [Act.put])
      refine wpAnyH_take (i := 23) (oi := _) (v := ?_) rfl (by kernel_rfl) (by kernel_rfl) (by kernel_rfl) (fun _ _ _ h => h) (Or.inl ⟨by rfl, ?_⟩) (by assumption) ?_
      rotate_left
      · (intro W hSw; obtain ⟨y0, y1, y2, y3, y4⟩ := hSw; go_simp; try with_reducible rfl)
      (try simp only [Act.put])
      refine wpAnyH_take (i := 24) (oi := _) (v := ?_) rfl (by kernel_rfl) (by kernel_rfl) (by kernel_rfl) (fun _ _ _ h => h) (Or.inl ⟨by rfl, ?_⟩) (by assumption) ?_
      rotate_left
      · (intro W hSw; obtain ⟨y0, y1, y2, y3, y4⟩ := hSw; go_simp; try with_reducible rfl)
      (try simp only [Act.put])
      refine wpAnyH_take (i := 25) (oi := _) (v := ?_) rfl (by kernel_rfl) (by kernel_rfl) (by kernel_rfl) (fun _ _ _ h => h) (Or.inl ⟨by rfl, ?_⟩) (by assumption) ?_
      rotate_left
      · (intro W hSw; obtain ⟨y0, y1, y2, y3, y4⟩ := hSw; go_simp; try with_reducible rfl)
      (try simp only [Act.put])
      refine wpAnyH_ready (rs := [26]) (by kernel_rfl) (by simp) ?_
      refine AllReadyH.cons (o := _) rfl (fun K hK => ?_) AllReadyH.nil
      go_simp
      refine KO.out.mono ?_
      rintro y w2 ⟨v2, rfl, o2, g2⟩
      go_simp
      refine hK.out _ _ ⟨(below_ext g2) _ _ hHeld.1, (below_ext g2) _ _ hHeld.2.1, (below_ext g2) _ _ hHeld.2.2.1, (below_ext g2) _ _ hHeld.2.2.2.1, (below_ext g2) _ _ hHeld.2.2.2.2⟩ (fun hHeld2 => ?_)
      clear hK K
      (try simp only [Act.put, List.setIfInBounds_toArray, List.set_cons_zero, List.set_cons_succ])
      refine wpAnyH_tail 27 rfl (by kernel_rfl) (by kernel_rfl) (fun _ => hHeld2) ?_
      simp only [List.drop_succ_cons, List.drop_zero]
      repeat (quiet_step (fail))
      refine wpQuiet_nil ?_
      rintro _ ⟨nq, rfl⟩
      have G2 := (hG.trans (gd.trans g2)).trans (Drew.grew ⟨nq, rfl⟩ : Grew w2 (w2.drewN nq))
      have O2 := Lib.hid (o2.grew (Drew.grew ⟨nq, rfl⟩ : Grew w2 (w2.drewN nq)))
      obtain ⟨a2, c2, rfl⟩ := bs_len o2
      clear hHeld hHeld2 x0 x1 x2 x3 x4 o2
      go_wp2
      go_roundw
      case rel => exact ⟨k + 1, by omega, by go_num, by rw [HS2.out]; exact O2.out, hno3, G2⟩
      case measure => simp [intOf]; omega
    · obtain rfl : k = A.length := by omega
      rw [List.take_of_length_le (by simp)] at hvo
      have hgw := g1.trans hG
      have hed : EdR w (.slice ua A.length uc) A := ⟨HE.out, fun x hx => ⟨(HA.out x hx).1, by
        obtain ⟨j, hj, rfl⟩ := List.getElem_of_mem hx
        have := hno.out j hj hj
        obtain ⟨y1, y2, y3, y4⟩ := (HA.out _ hx).2
        exact ⟨y1, y2, y3, y4, by omega⟩⟩⟩
      have HED := Lib.hid hed
      have HV := Lib.hid hvo
      obtain ⟨oa, oc, rfl⟩ := bs_len hvo
      clear hno hed hvo
      go_wp2_with fail
      refine (join_any l [] _ _ _ (HB.out.grew hgw) (Sl.nil _ 1) (by simp; omega)).mono ?_
      rintro y w3 ⟨v3, rfl, o3, g3⟩
      rw [List.append_nil] at o3
      obtain ⟨a3, c3, rfl⟩ := bs_len (Sl.of_own o3)
      have O3 := Lib.hid (Sl.of_own o3)
      clear o3
      go_wp2_with fail
      refine (sdo_any A l _ _ _ (HB.out.grew (hgw.trans g3)) (HED.out.grew (hgw.trans g3)) (by omega)).mono ?_
      rintro y w4 ⟨v4, rfl, o4, g4⟩
      obtain ⟨R, hR⟩ : ∃ R, R = doM l (A.map (·.1)) := ⟨_, rfl⟩
      rw [← hR] at o4 HV ⊢
      obtain ⟨a4, c4, rfl⟩ := bs_len (Sl.of_own o4)
      have O4 := Lib.hid (Sl.of_own o4)
      clear o4 hR
      go_wp2_with fail
      refine (same_any R R _ _ _ O4.out (HV.out.grew (g3.trans g4))).mono ?_
      rintro y w5 ⟨rfl, d5⟩
      rw [show (R == R) = true by simp]
      go_wp2_with fail
      refine (same_any l l _ _ _ (HB.out.grew (((hgw.trans g3).trans g4).trans d5.grew)) (O3.out.grew (g4.trans d5.grew))).mono ?_
      rintro y w6 ⟨rfl, d6⟩
      rw [show (l == l) = true by simp]
      go_wp2
      go_ret
      exact ⟨rfl, (((hgw.trans g3).trans g4).trans d5.grew).trans d6.grew⟩
end Go.Proofs.Ytoinndlialimcaa
