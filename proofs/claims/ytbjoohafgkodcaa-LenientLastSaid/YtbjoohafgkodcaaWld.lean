/- LenientLast: the walk. -/
import Derived.Test.YtbjoohafgkodcaaWl9
import Derived.Test.YtbjoohafgkodcaaEnb
import Derived.Test.YtbjoohafgkodcaaSr1
import Derived.BigQuiet
namespace Go.Proofs.Ytbjoohafgkodcaa
open Go Go.RowKit Go.Shelf
attribute [local go_sem] Oper.semAt_some

/-- a region that draws its order, in two steps: whatever the order was, some values lie in the slots, and F holds of them; and from there on -/
theorem wp_region_heldR {P : Program} {id : Nat} {Q : Exit → Act → World → Prop} {a : Act} {w : World} {ops : Array Oper} {S : World → Prop} {X : Type} (R : X → Array Value → Array Value) (F : X → World → Prop) (hm : P.follows .mixedOrders = true) (hS : S w.drew)
    (h : S w.drew → wpAnyH P .any ops (onlyN (onlyN fun _ a' W => ∃ x, a' = ⟨R x a.tmps, a.defers⟩ ∧ F x W)) S ops.size (Array.replicate ops.size false) a w.drew)
    (h2 : ∀ x W, F x W → Q .normal ⟨R x a.tmps, a.defers⟩ W) : (Code.region id ops true).wp P Q a w :=
  wp_mono (wp_region_heldN (Q := onlyN fun _ a' W => ∃ x, a' = ⟨R x a.tmps, a.defers⟩ ∧ F x W) hm hS h) (fun e a' W hq => by
    cases e with
    | normal => obtain ⟨x, rfl, hF⟩ := hq; exact h2 x W hF
    | _ => exact hq.elim)
theorem tx_at {W : World} {a : Option Addr} {n c : Nat} {l : List ByteArray} (h : Tx W (.slice a n c) l) (hn : 0 < l.length) : ∃ b o, a = some ⟨b, o, none⟩ ∧ ∀ i x, l[i]? = some x → W.cell? ⟨b, o + i, none⟩ = some (.string x) := by
  obtain ⟨a', c', e, -, -, -, hc⟩ := h.open
  cases e
  obtain ⟨b, o, rfl, hcc⟩ := hc (by simpa using hn)
  exact ⟨b, o, rfl, fun i x hx => hcc i _ (by rw [List.getElem?_map, hx]; rfl)⟩
theorem msgA_n (m : Msg) (lv : Value) {j : Nat} (h : j < 6) : (msgA m lv)[1 + j]? = some (.int .u64 (m.n j : Nat)) := by
  rcases (show j = 0 ∨ j = 1 ∨ j = 2 ∨ j = 3 ∨ j = 4 ∨ j = 5 by omega) with rfl | rfl | rfl | rfl | rfl | rfl <;> rfl
theorem msgA_s (m : Msg) (lv : Value) {j : Nat} (h : j < 2) : (msgA m lv)[7 + j]? = some (.string (m.s j)) := by
  rcases (show j = 0 ∨ j = 1 by omega) with rfl | rfl <;> rfl
set_option maxRecDepth 100000 in
set_option maxHeartbeats 8000000 in
theorem llast_walk (m n : Msg) (v u : Value) (ver : Int) (w : World) (hm : MsgR w v m) (hu : MsgR w u n) (hmn : ∀ i, i < 6 → m.n i < 18446744073709551616) (hnn : ∀ i, i < 6 → n.n i < 18446744073709551616) :
    Calls Try.prog 6 #[v, u, .int .i64 ver] w fun e w' => e = .returned (.bool true) ∧ Grew w w' := by
  obtain ⟨lv, rfl, hl, -⟩ := hm
  obtain ⟨lu, rfl, hl2, -⟩ := hu
  obtain ⟨a, c, rfl⟩ := tx_len hl
  obtain ⟨b, d, rfl⟩ := tx_len hl2
  obtain ⟨W0, hW0⟩ : ∃ W0, W0 = (w.alloc (.cells (msgA m (.slice a m.l.length c)) 29)).alloc (.cells (msgA n (.slice b n.l.length d)) 29) := ⟨_, rfl⟩
  have g0 : Grew w W0 := by rw [hW0]; exact grew22 _ _ _
  have K0 := Lib.hid (show Blk W0 w.heap.size 29 (msgA m (.slice a m.l.length c)) by rw [hW0]; exact (Blk.new _ _ _).alloc _)
  have K1 := Lib.hid (show Blk W0 (w.heap.size + 1) 29 (msgA n (.slice b n.l.length d)) by rw [hW0]; exact Blk.at (by simp))
  have G0 := Lib.hid g0
  have HL := Lib.hid hl
  have HL2 := Lib.hid hl2
  have HM := Lib.hid hmn
  have HN := Lib.hid hnn
  simp only [msgA] at hW0 ⊢
  clear g0 hl hl2 hmn hnn
  go_enter Try.func6, Try.ntmps6
  go_upto_region 1 with (fail)
  rw [← hW0]
  clear hW0
  go_wp2_with fail
  refine (live11_any _).mono ?_
  rintro e w1 ⟨rfl, g1⟩
  have G1 := Lib.hid (G0.out.trans g1)
  have D1 := Lib.hid g1
  have KSM := Lib.hid (small9_any m _ w1 (HL.out.grew G1.out))
  obtain ⟨c0, c1, c2, c3, c4, c5, c6, c7, c8, c9⟩ := mcells (K0.out.grew g1)
  simp only [msgA] at KSM
  clear g1
  go_wp2_with fail
  refine KSM.out.mono ?_
  rintro e w2 ⟨rfl, g2⟩
  have G2 := Lib.hid (G1.out.trans g2)
  have D2 := Lib.hid (D1.out.trans g2)
  clear g2 c0 c1 c2 c3 c4 c5 c6 c7 c8 c9 KSM
  cases hs : smallB m with
  | false =>
    clear hs
    go_wp2
    go_ret
    exact ⟨rfl, G2.out⟩
  | true =>
  have HE := Lib.hid (small_ok hs HM.out)
  clear hs
  have KSN := Lib.hid (small9_any n _ w2 (HL2.out.grew G2.out))
  obtain ⟨c0, c1, c2, c3, c4, c5, c6, c7, c8, c9⟩ := mcells (K1.out.grew D2.out)
  simp only [msgA] at KSN
  go_wp2_with fail
  refine KSN.out.mono ?_
  rintro e w3 ⟨rfl, g3⟩
  have G3 := Lib.hid (G2.out.trans g3)
  have D3 := Lib.hid (D2.out.trans g3)
  clear g3 c0 c1 c2 c3 c4 c5 c6 c7 c8 c9 KSN
  obtain ⟨c0, c1, c2, c3, c4, c5, c6, c7, c8, c9⟩ := mcells (K0.out.grew D3.out)
  obtain ⟨d0, d1, d2, d3, d4, d5, d6, d7, d8, d9⟩ := mcells (K1.out.grew D3.out)
  cases hs : smallB n with
  | false =>
    clear hs
    go_wp2
    go_ret
    exact ⟨rfl, G3.out⟩
  | true =>
  have HE2 := Lib.hid (small_ok hs HN.out)
  clear hs
  by_cases hk : m.k = n.k
  case neg =>
    have qk : ((m.k : Int) != (n.k : Int)) = true := by simp; omega
    go_wp2
    go_ret
    exact ⟨rfl, G3.out⟩
  have qk : ((m.k : Int) != (n.k : Int)) = false := by simp; omega
  have KE := Lib.hid (fun W (g : Grew w W) => ebytes_any m a c ver W HE.out (HL.out.grew g))
  have KF := Lib.hid (fun W (g : Grew w W) => ebytes_any n b d ver W HE2.out (HL2.out.grew g))
  have HLA := Lib.hid (fun h => (small_msg (m := m) (ver := ver) h HM.out).2.1)
  have HLB := Lib.hid (fun h => (small_msg (m := n) (ver := ver) h HN.out).2.1)
  have HLAST := Lib.hid (fun h1 h2 h3 => last_law (a := m) (b := n) (ver := ver) hk h1 h2 HM.out HN.out h3)
  obtain ⟨E, hE⟩ : ∃ E, E = chkM m (ofKind m.k (rowsIn ver)) := ⟨_, rfl⟩
  obtain ⟨E', hE'⟩ : ∃ E, E = chkM n (ofKind n.k (rowsIn ver)) := ⟨_, rfl⟩
  obtain ⟨B, hB⟩ : ∃ B, B = msgB m (ofKind m.k (rowsIn ver)) := ⟨_, rfl⟩
  obtain ⟨B', hB'⟩ : ∃ B, B = msgB n (ofKind n.k (rowsIn ver)) := ⟨_, rfl⟩
  rw [← hE, ← hB] at KE
  rw [← hE', ← hB'] at KF
  rw [← hE, ← hE', ← hB, ← hB'] at HLAST
  rw [← hE, ← hB] at HLA
  rw [← hE', ← hB'] at HLB
  simp only [msgA, fltV] at KE KF
  have HKK := Lib.hid hk
  clear hE hE' hB hB' hk
  go_wp2_with fail
  refine (KE.out _ G3.out).mono ?_
  rintro e w4 ⟨v4, rfl, ho4, g4⟩
  obtain ⟨a4, c4', rfl⟩ := bs_len (Sl.of_own ho4)
  obtain ⟨V4, hV4⟩ : ∃ V, V = w4.alloc (.cells #[.int .i64 (E.1 : Nat), .int .i64 (E.2 : Nat)] 32) := ⟨_, rfl⟩
  have gv : Grew w4 V4 := by rw [hV4]; exact grew_alloc _ _
  have KF4 := Lib.hid (show Blk V4 w4.heap.size 32 #[.int .i64 (E.1 : Nat), .int .i64 (E.2 : Nat)] by rw [hV4]; exact Blk.new _ _ _)
  have HO4 := Lib.hid (own_grew ho4 gv)
  have M4 := Lib.hid (g4.trans gv)
  have D4 := Lib.hid (D3.out.trans (g4.trans gv))
  have G4 := Lib.hid (G3.out.trans (g4.trans gv))
  clear g4 gv ho4 c0 c1 c2 c3 c4 c5 c6 c7 c8 c9 d0 d1 d2 d3 d4 d5 d6 d7 d8 d9 KE qk
  obtain ⟨c0, c1, c2, c3, c4, c5, c6, c7, c8, c9⟩ := mcells (K1.out.grew D4.out)
  go_upto_region 6 with (fail)
  rw [← hV4]
  clear hV4
  go_wp2_with fail
  refine (KF.out _ G4.out).mono ?_
  rintro e w5 ⟨v5, rfl, ho5, g5⟩
  obtain ⟨a5, c5', rfl⟩ := bs_len (Sl.of_own ho5)
  obtain ⟨V5, hV5⟩ : ∃ V, V = w5.alloc (.cells #[.int .i64 (E'.1 : Nat), .int .i64 (E'.2 : Nat)] 32) := ⟨_, rfl⟩
  have gv : Grew w5 V5 := by rw [hV5]; exact grew_alloc _ _
  have KF5 := Lib.hid (show Blk V5 w5.heap.size 32 #[.int .i64 (E'.1 : Nat), .int .i64 (E'.2 : Nat)] by rw [hV5]; exact Blk.new _ _ _)
  have M5 := Lib.hid (g5.trans gv)
  have HO5 := Lib.hid (own_grew ho5 gv)
  have D5 := Lib.hid (D4.out.trans M5.out)
  have G5 := Lib.hid (G4.out.trans M5.out)
  obtain ⟨x0, x1, -, -⟩ := cells_of (KF4.out.grew M5.out)
  obtain ⟨y0, y1, -, -⟩ := cells_of KF5.out
  clear g5 gv ho5 c0 c1 c2 c3 c4 c5 c6 c7 c8 c9 KF
  go_upto_region 7 with (fail)
  rw [← hV5]
  clear hV5
  by_cases he : E.1 = 0
  case neg =>
    have qe : ((E.1 : Int) != 0) = true := by simp; omega
    go_wp2
    go_ret
    exact ⟨rfl, G5.out⟩
  have qe : ((E.1 : Int) != 0) = false := by simp; omega
  by_cases he' : E'.1 = 0
  case neg =>
    have qe' : ((E'.1 : Int) != 0) = true := by simp; omega
    go_wp2
    go_ret
    exact ⟨rfl, G5.out⟩
  have qe' : ((E'.1 : Int) != 0) = false := by simp; omega
  have hlB := HLA.out he
  have hlB' := HLB.out he'
  have hw : wrap64 ((B.length : Int) + (B'.length : Int)) = ((B.length + B'.length : Nat) : Int) := by unfold wrap64; omega
  by_cases hln : 8192 < B.length + B'.length
  case pos =>
    have q : decide (((B.length + B'.length : Nat) : Int) > 8192) = true := decide_eq_true (by omega)
    go_wp2
    go_ret
    exact ⟨rfl, G5.out⟩
  have q : decide (((B.length + B'.length : Nat) : Int) > 8192) = false := decide_eq_false (by omega)
  have HZ := Lib.hid (HLAST.out he he' (by rw [List.length_append]; omega))
  clear he he' HLAST
  obtain ⟨c0, c1, c2, c3, c4, c5, c6, c7, c8, c9⟩ := mcells (K0.out.grew D5.out)
  go_upto_region 9 with (fail)
  obtain ⟨X, hX⟩ : ∃ X, X = B ++ B' := ⟨_, rfl⟩
  have hXl : X.length ≤ 8192 := by rw [hX, List.length_append]; omega
  have HXE := Lib.hid hX
  have KDX := Lib.hid (fun W v (hb : Bs W v X) => ldecode_any m.k ver X v W hb (by omega))
  have HLN := Lib.hid (show B.length + B'.length ≤ 8192 by omega)
  rw [← hX] at HZ
  obtain ⟨D, hD⟩ : ∃ D, D = decM m.k ver X := ⟨_, rfl⟩
  unfold DecP at KDX
  rw [← hD] at KDX HZ
  obtain ⟨Dm, De, Da⟩ := D
  simp only [fltI] at KDX
  clear hD hX hXl hlB hlB' hln hw
  have M53 := Lib.hid (show Grew w3 V5 from M4.out.trans M5.out)
  refine wp_region_heldR (S := fun V => Grew w3 V) (fun (x : (Option Addr × Nat) × (Option Addr × Nat) × Nat × Nat) T => (((((((((((T.setIfInBounds 62 (.pointer (some ⟨w.heap.size, 0, none⟩))).setIfInBounds 63 (.int .u8 (m.k : Nat))).setIfInBounds 64 (.int .i64 ver)).setIfInBounds 65 (.slice a4 B.length c4')).setIfInBounds 66 (.slice a5 B'.length c5')).setIfInBounds 67 (.slice x.1.1 X.length x.1.2)).setIfInBounds 61 (.tuple #[.agg (msgA Dm (.slice x.2.1.1 Dm.l.length x.2.1.2)), .agg #[.int .i64 (De : Nat), .int .i64 Da]])).setIfInBounds 68 (.tuple #[.agg (msgA Dm (.slice x.2.1.1 Dm.l.length x.2.1.2)), .agg #[.int .i64 (De : Nat), .int .i64 Da]])).setIfInBounds 69 (.agg (msgA Dm (.slice x.2.1.1 Dm.l.length x.2.1.2)))).setIfInBounds 70 (.agg #[.int .i64 (De : Nat), .int .i64 Da])).setIfInBounds 11 (.pointer (some ⟨x.2.2.1, 0, none⟩))).setIfInBounds 12 (.pointer (some ⟨x.2.2.2, 0, none⟩)))
    (fun x W => Blk W x.2.2.1 29 (msgA Dm (.slice x.2.1.1 Dm.l.length x.2.1.2)) ∧ Blk W x.2.2.2 32 #[.int .i64 (De : Nat), .int .i64 Da] ∧ OwnT W w3.heap.size (.slice x.2.1.1 Dm.l.length x.2.1.2) Dm.l ∧ Grew w3 W)
    (by kernel_rfl) (M53.out.trans (Drew.grew ⟨1, rfl⟩)) (fun hHeld => ?_) ?_
  · skip
    have HS := Lib.hid hHeld
    have HV := Lib.hid (show Grew V5 V5.drew from Drew.grew ⟨1, rfl⟩)
    clear x0 x1 y0 y1 c0 c1 c2 c3 c4 c5 c6 c7 c8 c9
    refine wpAnyH_take (i := 0) (oi := ⟨some 62, _, _, _, _, _⟩) (v := .pointer (some ⟨w.heap.size, 0, none⟩)) rfl (by kernel_rfl) (by kernel_rfl) (by kernel_rfl) (fun _ _ _ h => h) (Or.inl ⟨by rfl, ?_⟩) (by first | assumption | exact HS.out) ?_
    · intro V hV
      go_simp
      try rfl
    simp only [Act.put, List.setIfInBounds_toArray, List.set_cons_zero, List.set_cons_succ]
    refine wpAnyH_take (i := 1) (oi := ⟨some 63, _, _, _, _, _⟩) (v := .int .u8 (m.k : Nat)) rfl (by kernel_rfl) (by kernel_rfl) (by kernel_rfl) (fun _ _ _ h => h) (Or.inl ⟨by rfl, ?_⟩) (by first | assumption | exact HS.out) ?_
    · intro V hV
      obtain ⟨c0, c1, c2, c3, c4, c5, c6, c7, c8, c9⟩ := mcells (K0.out.grew (D3.out.trans hV))
      go_simp
      try rfl
    simp only [Act.put, List.setIfInBounds_toArray, List.set_cons_zero, List.set_cons_succ]
    refine wpAnyH_take (i := 2) (oi := ⟨some 64, _, _, _, _, _⟩) (v := .int .i64 ver) rfl (by kernel_rfl) (by kernel_rfl) (by kernel_rfl) (fun _ _ _ h => h) (Or.inl ⟨by rfl, ?_⟩) (by first | assumption | exact HS.out) ?_
    · intro V hV
      go_simp
      try rfl
    simp only [Act.put, List.setIfInBounds_toArray, List.set_cons_zero, List.set_cons_succ]
    refine wpAnyH_take (i := 3) (oi := ⟨some 65, _, _, _, _, _⟩) (v := .slice a4 B.length c4') rfl (by kernel_rfl) (by kernel_rfl) (by kernel_rfl) (fun _ _ _ h => h) (Or.inl ⟨by rfl, ?_⟩) (by first | assumption | exact HS.out) ?_
    · intro V hV
      go_simp
      try rfl
    simp only [Act.put, List.setIfInBounds_toArray, List.set_cons_zero, List.set_cons_succ]
    refine wpAnyH_take (i := 4) (oi := ⟨some 66, _, _, _, _, _⟩) (v := .slice a5 B'.length c5') rfl (by kernel_rfl) (by kernel_rfl) (by kernel_rfl) (fun _ _ _ h => h) (Or.inl ⟨by rfl, ?_⟩) (by first | assumption | exact HS.out) ?_
    · intro V hV
      go_simp
      try rfl
    simp only [Act.put, List.setIfInBounds_toArray, List.set_cons_zero, List.set_cons_succ]
    clear hHeld
    obtain ⟨Y0, hY0⟩ : ∃ Y0, Y0 = V5.drew := ⟨_, rfl⟩
    rw [← hY0] at HS HV ⊢
    clear hY0
    refine wpAnyH_ready (rs := [5, 10, 11]) (by kernel_rfl) (by simp) ?_
    refine AllReadyH.cons (o := _) rfl (fun K hK => ?_) (AllReadyH.cons (o := _) rfl (fun K hK => ?_) (AllReadyH.cons (o := _) rfl (fun K hK => ?_) AllReadyH.nil))
    · skip
      refine step_of_list ?_
      refine wpList_push2 rfl _ _ rfl w3.heap.size (.slice a4 B.length c4') B rfl (own_grew HO4.out (M5.out.trans HV.out)) (.slice a5 B'.length c5') rfl B' (Sl.of_own (own_grew HO5.out HV.out)) (by have := HLN.out; omega) (by have := HS.out.size; omega) ?_
      intro vx Y1 hown hB hgb _
      rw [← HXE.out] at hown
      obtain ⟨va, nc, rfl⟩ := bs_len (Sl.of_own hown)
      have HSn := Lib.hid (show Grew w3 Y1 from Below.trans HS.out hB)
      have HA := Lib.hid hown
      clear hgb hB HS HV
      have HS := HSn
      clear HSn hown
      refine hK.out _ _ HS.out (fun _ => ?_)
      clear hK K
      (try simp only [Act.put, List.setIfInBounds_toArray])
      refine wpAnyH_ready (rs := [6, 10, 11]) (by kernel_rfl) (by simp) ?_
      refine AllReadyH.cons (o := _) rfl (fun K hK => ?_) (AllReadyH.cons (o := _) rfl (fun K hK => ?_) (AllReadyH.cons (o := _) rfl (fun K hK => ?_) AllReadyH.nil))
      · skip
        go_simp
        refine (KDX.out Y1 _ (Sl.of_own HA.out)).mono ?_
        rintro e Y2 ⟨lx, rfl, hox, gx⟩
        obtain ⟨la, lc, rfl⟩ := tx_len (Sl.of_own hox)
        have HSn := Lib.hid (HS.out.trans gx)
        have HC := Lib.hid (own_mono (base' := w3.heap.size) hox HS.out.size)
        clear hox gx HS HA
        have HS := HSn
        clear HSn
        go_simp
        refine hK.out _ _ HS.out (fun _ => ?_)
        clear hK K
        (try simp only [Act.put, List.setIfInBounds_toArray, List.set_cons_zero, List.set_cons_succ])
        refine wpAnyH_take (i := 7) (oi := ⟨some 61, _, _, _, _, _⟩) (v := .tuple #[.agg (msgA Dm (.slice la Dm.l.length lc)), .agg #[.int .i64 (De : Nat), .int .i64 Da]]) rfl (by kernel_rfl) (by kernel_rfl) (by kernel_rfl) (fun _ _ _ h => h) (Or.inl ⟨by rfl, ?_⟩) (by first | assumption | exact HS.out) ?_
        · intro V hV
          go_simp
          try rfl
        simp only [Act.put, List.setIfInBounds_toArray, List.set_cons_zero, List.set_cons_succ]
        refine wpAnyH_take (i := 8) (oi := ⟨some 69, _, _, _, _, _⟩) (v := .agg (msgA Dm (.slice la Dm.l.length lc))) rfl (by kernel_rfl) (by kernel_rfl) (by kernel_rfl) (fun _ _ _ h => h) (Or.inl ⟨by rfl, ?_⟩) (by first | assumption | exact HS.out) ?_
        · intro V hV
          go_simp
          try rfl
        simp only [Act.put, List.setIfInBounds_toArray, List.set_cons_zero, List.set_cons_succ]
        refine wpAnyH_take (i := 9) (oi := ⟨some 70, _, _, _, _, _⟩) (v := .agg #[.int .i64 (De : Nat), .int .i64 Da]) rfl (by kernel_rfl) (by kernel_rfl) (by kernel_rfl) (fun _ _ _ h => h) (Or.inl ⟨by rfl, ?_⟩) (by first | assumption | exact HS.out) ?_
        · intro V hV
          go_simp
          try rfl
        simp only [Act.put, List.setIfInBounds_toArray, List.set_cons_zero, List.set_cons_succ]
        refine wpAnyH_ready (rs := [10, 11]) (by kernel_rfl) (by simp) ?_
        refine AllReadyH.cons (o := _) rfl (fun K hK => ?_) (AllReadyH.cons (o := _) rfl (fun K hK => ?_) AllReadyH.nil)
        · skip
          go_simp
          obtain ⟨Y3, hY3⟩ : ∃ V, V = Y2.alloc (.cells zMsg 29) := ⟨_, rfl⟩
          have gx : Grew Y2 Y3 := by rw [hY3]; exact grew_alloc _ _
          have KX := Lib.hid (show Blk Y3 Y2.heap.size 29 zMsg by rw [hY3]; exact Blk.new _ _ _)
          have HX := Lib.hid HS.out.size
          have HSn := Lib.hid (HS.out.trans gx)
          have HCn := Lib.hid (own_grew HC.out gx)
          clear HC
          have HC := HCn
          clear HCn
          clear HS gx
          have HS := HSn
          clear HSn
          simp only [zMsg] at hY3
          rw [← hY3]
          clear hY3
          refine hK.out _ _ HS.out (fun _ => ?_)
          clear hK K
          (try simp only [Act.put, List.setIfInBounds_toArray, List.set_cons_zero, List.set_cons_succ])
          refine wpAnyH_ready (rs := [11]) (by kernel_rfl) (by simp) ?_
          refine AllReadyH.cons (o := _) rfl (fun K hK => ?_) AllReadyH.nil
          · skip
            go_simp
            obtain ⟨Y4, hY4⟩ : ∃ V, V = Y3.alloc (.cells #[.int .i64 0, .int .i64 0] 32) := ⟨_, rfl⟩
            have gx : Grew Y3 Y4 := by rw [hY4]; exact grew_alloc _ _
            have KY := Lib.hid (show Blk Y4 Y3.heap.size 32 #[.int .i64 0, .int .i64 0] by rw [hY4]; exact Blk.new _ _ _)
            have HY := Lib.hid HS.out.size
            have HSn := Lib.hid (HS.out.trans gx)
            have HXY := Lib.hid (show Y2.heap.size ≠ Y3.heap.size by have h := KX.out.lt; omega)
            have KXn := Lib.hid (KX.out.grew gx)
            clear KX
            have KX := KXn
            clear KXn
            have HCn := Lib.hid (own_grew HC.out gx)
            clear HC
            have HC := HCn
            clear HCn
            clear HS gx
            have HS := HSn
            clear HSn
            rw [← hY4]
            clear hY4
            refine hK.out _ _ HS.out (fun _ => ?_)
            clear hK K
            (try simp only [Act.put, List.setIfInBounds_toArray, List.set_cons_zero, List.set_cons_succ])
            refine wpAnyH_ready (rs := [12]) (by kernel_rfl) (by simp) ?_
            refine AllReadyH.cons (o := _) rfl (fun K hK => ?_) AllReadyH.nil
            refine wp_store_row 29 _ _ rfl Y2.heap.size (msgA Dm (.slice la Dm.l.length lc)) rfl rfl 29 _ KX.out (by kernel_rfl) rfl (msgA_one _ _ _ _) ?_
            obtain ⟨Wm, hWm⟩ : ∃ Wm, Wm = Y4.setRow Y2.heap.size (msgA Dm (.slice la Dm.l.length lc)) := ⟨_, rfl⟩
            have HSm := Lib.hid (show Grew w3 Wm by rw [hWm]; exact below_setRow HS.out HX.out _)
            have HCm := Lib.hid (show OwnT Wm w3.heap.size (.slice la Dm.l.length lc) Dm.l by rw [hWm]; exact own_block HC.out (fun g hg => setRow_other _ _ _ _ (fun e => blk_ne_row KX.out HC.out (by decide) (by subst e; exact hg.symm))))
            have KXm := Lib.hid (show Blk Wm Y2.heap.size 29 (msgA Dm (.slice la Dm.l.length lc)) by rw [hWm]; exact KX.out.row _)
            have KYm := Lib.hid (show Blk Wm Y3.heap.size 32 #[.int .i64 0, .int .i64 0] by rw [hWm]; exact KY.out.rowOther HXY.out.symm)
            rw [← hWm]
            clear hWm
            refine hK.out _ _ HSm.out (fun _ => ?_)
            clear hK K
            simp only [Act.put]
            refine wpAnyH_ready (rs := [13]) (by kernel_rfl) (by simp) ?_
            refine AllReadyH.cons (o := _) rfl (fun K hK => ?_) AllReadyH.nil
            refine wp_store_pair 32 _ _ rfl Y3.heap.size _ _ rfl rfl 32 _ KYm.out (by kernel_rfl) rfl rfl rfl ?_
            refine hK.out _ _ (below_setRow HSm.out HY.out _) (fun hl => ?_)
            clear hK K
            simp only [Act.put]
            refine wpAnyH_done (by kernel_rfl) ?_ _
            simp only [onlyN]
            exact ⟨((va, nc), (la, lc), Y2.heap.size, Y3.heap.size), rfl, KXm.out.rowOther HXY.out, KYm.out.row _, own_block HCm.out (fun g hg => setRow_other _ _ _ _ (fun e => blk_ne_row KYm.out HCm.out (by decide) (by subst e; exact hg.symm))), hl⟩
        · skip
          go_simp
          obtain ⟨Y5, hY5⟩ : ∃ V, V = Y2.alloc (.cells #[.int .i64 0, .int .i64 0] 32) := ⟨_, rfl⟩
          have gx : Grew Y2 Y5 := by rw [hY5]; exact grew_alloc _ _
          have KY := Lib.hid (show Blk Y5 Y2.heap.size 32 #[.int .i64 0, .int .i64 0] by rw [hY5]; exact Blk.new _ _ _)
          have HY := Lib.hid HS.out.size
          have HSn := Lib.hid (HS.out.trans gx)
          have HCn := Lib.hid (own_grew HC.out gx)
          clear HC
          have HC := HCn
          clear HCn
          clear HS gx
          have HS := HSn
          clear HSn
          rw [← hY5]
          clear hY5
          refine hK.out _ _ HS.out (fun _ => ?_)
          clear hK K
          (try simp only [Act.put, List.setIfInBounds_toArray, List.set_cons_zero, List.set_cons_succ])
          refine wpAnyH_ready (rs := [10]) (by kernel_rfl) (by simp) ?_
          refine AllReadyH.cons (o := _) rfl (fun K hK => ?_) AllReadyH.nil
          · skip
            go_simp
            obtain ⟨Y6, hY6⟩ : ∃ V, V = Y5.alloc (.cells zMsg 29) := ⟨_, rfl⟩
            have gx : Grew Y5 Y6 := by rw [hY6]; exact grew_alloc _ _
            have KX := Lib.hid (show Blk Y6 Y5.heap.size 29 zMsg by rw [hY6]; exact Blk.new _ _ _)
            have HX := Lib.hid HS.out.size
            have HSn := Lib.hid (HS.out.trans gx)
            have HXY := Lib.hid (show Y5.heap.size ≠ Y2.heap.size by have h := KY.out.lt; omega)
            have KYn := Lib.hid (KY.out.grew gx)
            clear KY
            have KY := KYn
            clear KYn
            have HCn := Lib.hid (own_grew HC.out gx)
            clear HC
            have HC := HCn
            clear HCn
            clear HS gx
            have HS := HSn
            clear HSn
            simp only [zMsg] at hY6
            rw [← hY6]
            clear hY6
            refine hK.out _ _ HS.out (fun _ => ?_)
            clear hK K
            (try simp only [Act.put, List.setIfInBounds_toArray, List.set_cons_zero, List.set_cons_succ])
            refine wpAnyH_ready (rs := [12]) (by kernel_rfl) (by simp) ?_
            refine AllReadyH.cons (o := _) rfl (fun K hK => ?_) AllReadyH.nil
            refine wp_store_row 29 _ _ rfl Y5.heap.size (msgA Dm (.slice la Dm.l.length lc)) rfl rfl 29 _ KX.out (by kernel_rfl) rfl (msgA_one _ _ _ _) ?_
            obtain ⟨Wm, hWm⟩ : ∃ Wm, Wm = Y6.setRow Y5.heap.size (msgA Dm (.slice la Dm.l.length lc)) := ⟨_, rfl⟩
            have HSm := Lib.hid (show Grew w3 Wm by rw [hWm]; exact below_setRow HS.out HX.out _)
            have HCm := Lib.hid (show OwnT Wm w3.heap.size (.slice la Dm.l.length lc) Dm.l by rw [hWm]; exact own_block HC.out (fun g hg => setRow_other _ _ _ _ (fun e => blk_ne_row KX.out HC.out (by decide) (by subst e; exact hg.symm))))
            have KXm := Lib.hid (show Blk Wm Y5.heap.size 29 (msgA Dm (.slice la Dm.l.length lc)) by rw [hWm]; exact KX.out.row _)
            have KYm := Lib.hid (show Blk Wm Y2.heap.size 32 #[.int .i64 0, .int .i64 0] by rw [hWm]; exact KY.out.rowOther HXY.out.symm)
            rw [← hWm]
            clear hWm
            refine hK.out _ _ HSm.out (fun _ => ?_)
            clear hK K
            simp only [Act.put]
            refine wpAnyH_ready (rs := [13]) (by kernel_rfl) (by simp) ?_
            refine AllReadyH.cons (o := _) rfl (fun K hK => ?_) AllReadyH.nil
            refine wp_store_pair 32 _ _ rfl Y2.heap.size _ _ rfl rfl 32 _ KYm.out (by kernel_rfl) rfl rfl rfl ?_
            refine hK.out _ _ (below_setRow HSm.out HY.out _) (fun hl => ?_)
            clear hK K
            simp only [Act.put]
            refine wpAnyH_done (by kernel_rfl) ?_ _
            simp only [onlyN]
            exact ⟨((va, nc), (la, lc), Y5.heap.size, Y2.heap.size), rfl, KXm.out.rowOther HXY.out, KYm.out.row _, own_block HCm.out (fun g hg => setRow_other _ _ _ _ (fun e => blk_ne_row KYm.out HCm.out (by decide) (by subst e; exact hg.symm))), hl⟩
      · skip
        go_simp
        obtain ⟨Y7, hY7⟩ : ∃ V, V = Y1.alloc (.cells zMsg 29) := ⟨_, rfl⟩
        have gx : Grew Y1 Y7 := by rw [hY7]; exact grew_alloc _ _
        have KX := Lib.hid (show Blk Y7 Y1.heap.size 29 zMsg by rw [hY7]; exact Blk.new _ _ _)
        have HX := Lib.hid HS.out.size
        have HSn := Lib.hid (HS.out.trans gx)
        have HAn := Lib.hid (own_grew HA.out gx)
        clear HA
        have HA := HAn
        clear HAn
        clear HS gx
        have HS := HSn
        clear HSn
        simp only [zMsg] at hY7
        rw [← hY7]
        clear hY7
        refine hK.out _ _ HS.out (fun _ => ?_)
        clear hK K
        (try simp only [Act.put, List.setIfInBounds_toArray, List.set_cons_zero, List.set_cons_succ])
        refine wpAnyH_ready (rs := [6, 11]) (by kernel_rfl) (by simp) ?_
        refine AllReadyH.cons (o := _) rfl (fun K hK => ?_) (AllReadyH.cons (o := _) rfl (fun K hK => ?_) AllReadyH.nil)
        · skip
          go_simp
          refine (KDX.out Y7 _ (Sl.of_own HA.out)).mono ?_
          rintro e Y8 ⟨lx, rfl, hox, gx⟩
          obtain ⟨la, lc, rfl⟩ := tx_len (Sl.of_own hox)
          have HSn := Lib.hid (HS.out.trans gx)
          have HC := Lib.hid (own_mono (base' := w3.heap.size) hox HS.out.size)
          have KXn := Lib.hid (KX.out.grew gx)
          clear KX
          have KX := KXn
          clear KXn
          clear hox gx HS HA
          have HS := HSn
          clear HSn
          go_simp
          refine hK.out _ _ HS.out (fun _ => ?_)
          clear hK K
          (try simp only [Act.put, List.setIfInBounds_toArray, List.set_cons_zero, List.set_cons_succ])
          refine wpAnyH_take (i := 7) (oi := ⟨some 61, _, _, _, _, _⟩) (v := .tuple #[.agg (msgA Dm (.slice la Dm.l.length lc)), .agg #[.int .i64 (De : Nat), .int .i64 Da]]) rfl (by kernel_rfl) (by kernel_rfl) (by kernel_rfl) (fun _ _ _ h => h) (Or.inl ⟨by rfl, ?_⟩) (by first | assumption | exact HS.out) ?_
          · intro V hV
            go_simp
            try rfl
          simp only [Act.put, List.setIfInBounds_toArray, List.set_cons_zero, List.set_cons_succ]
          refine wpAnyH_take (i := 8) (oi := ⟨some 69, _, _, _, _, _⟩) (v := .agg (msgA Dm (.slice la Dm.l.length lc))) rfl (by kernel_rfl) (by kernel_rfl) (by kernel_rfl) (fun _ _ _ h => h) (Or.inl ⟨by rfl, ?_⟩) (by first | assumption | exact HS.out) ?_
          · intro V hV
            go_simp
            try rfl
          simp only [Act.put, List.setIfInBounds_toArray, List.set_cons_zero, List.set_cons_succ]
          refine wpAnyH_take (i := 9) (oi := ⟨some 70, _, _, _, _, _⟩) (v := .agg #[.int .i64 (De : Nat), .int .i64 Da]) rfl (by kernel_rfl) (by kernel_rfl) (by kernel_rfl) (fun _ _ _ h => h) (Or.inl ⟨by rfl, ?_⟩) (by first | assumption | exact HS.out) ?_
          · intro V hV
            go_simp
            try rfl
          simp only [Act.put, List.setIfInBounds_toArray, List.set_cons_zero, List.set_cons_succ]
          refine wpAnyH_ready (rs := [11]) (by kernel_rfl) (by simp) ?_
          refine AllReadyH.cons (o := _) rfl (fun K hK => ?_) AllReadyH.nil
          · skip
            go_simp
            obtain ⟨Y9, hY9⟩ : ∃ V, V = Y8.alloc (.cells #[.int .i64 0, .int .i64 0] 32) := ⟨_, rfl⟩
            have gx : Grew Y8 Y9 := by rw [hY9]; exact grew_alloc _ _
            have KY := Lib.hid (show Blk Y9 Y8.heap.size 32 #[.int .i64 0, .int .i64 0] by rw [hY9]; exact Blk.new _ _ _)
            have HY := Lib.hid HS.out.size
            have HSn := Lib.hid (HS.out.trans gx)
            have HXY := Lib.hid (show Y1.heap.size ≠ Y8.heap.size by have h := KX.out.lt; omega)
            have KXn := Lib.hid (KX.out.grew gx)
            clear KX
            have KX := KXn
            clear KXn
            have HCn := Lib.hid (own_grew HC.out gx)
            clear HC
            have HC := HCn
            clear HCn
            clear HS gx
            have HS := HSn
            clear HSn
            rw [← hY9]
            clear hY9
            refine hK.out _ _ HS.out (fun _ => ?_)
            clear hK K
            (try simp only [Act.put, List.setIfInBounds_toArray, List.set_cons_zero, List.set_cons_succ])
            refine wpAnyH_ready (rs := [12]) (by kernel_rfl) (by simp) ?_
            refine AllReadyH.cons (o := _) rfl (fun K hK => ?_) AllReadyH.nil
            refine wp_store_row 29 _ _ rfl Y1.heap.size (msgA Dm (.slice la Dm.l.length lc)) rfl rfl 29 _ KX.out (by kernel_rfl) rfl (msgA_one _ _ _ _) ?_
            obtain ⟨Wm, hWm⟩ : ∃ Wm, Wm = Y9.setRow Y1.heap.size (msgA Dm (.slice la Dm.l.length lc)) := ⟨_, rfl⟩
            have HSm := Lib.hid (show Grew w3 Wm by rw [hWm]; exact below_setRow HS.out HX.out _)
            have HCm := Lib.hid (show OwnT Wm w3.heap.size (.slice la Dm.l.length lc) Dm.l by rw [hWm]; exact own_block HC.out (fun g hg => setRow_other _ _ _ _ (fun e => blk_ne_row KX.out HC.out (by decide) (by subst e; exact hg.symm))))
            have KXm := Lib.hid (show Blk Wm Y1.heap.size 29 (msgA Dm (.slice la Dm.l.length lc)) by rw [hWm]; exact KX.out.row _)
            have KYm := Lib.hid (show Blk Wm Y8.heap.size 32 #[.int .i64 0, .int .i64 0] by rw [hWm]; exact KY.out.rowOther HXY.out.symm)
            rw [← hWm]
            clear hWm
            refine hK.out _ _ HSm.out (fun _ => ?_)
            clear hK K
            simp only [Act.put]
            refine wpAnyH_ready (rs := [13]) (by kernel_rfl) (by simp) ?_
            refine AllReadyH.cons (o := _) rfl (fun K hK => ?_) AllReadyH.nil
            refine wp_store_pair 32 _ _ rfl Y8.heap.size _ _ rfl rfl 32 _ KYm.out (by kernel_rfl) rfl rfl rfl ?_
            refine hK.out _ _ (below_setRow HSm.out HY.out _) (fun hl => ?_)
            clear hK K
            simp only [Act.put]
            refine wpAnyH_done (by kernel_rfl) ?_ _
            simp only [onlyN]
            exact ⟨((va, nc), (la, lc), Y1.heap.size, Y8.heap.size), rfl, KXm.out.rowOther HXY.out, KYm.out.row _, own_block HCm.out (fun g hg => setRow_other _ _ _ _ (fun e => blk_ne_row KYm.out HCm.out (by decide) (by subst e; exact hg.symm))), hl⟩
        · skip
          go_simp
          obtain ⟨Y10, hY10⟩ : ∃ V, V = Y7.alloc (.cells #[.int .i64 0, .int .i64 0] 32) := ⟨_, rfl⟩
          have gx : Grew Y7 Y10 := by rw [hY10]; exact grew_alloc _ _
          have KY := Lib.hid (show Blk Y10 Y7.heap.size 32 #[.int .i64 0, .int .i64 0] by rw [hY10]; exact Blk.new _ _ _)
          have HY := Lib.hid HS.out.size
          have HSn := Lib.hid (HS.out.trans gx)
          have HXY := Lib.hid (show Y1.heap.size ≠ Y7.heap.size by have h := KX.out.lt; omega)
          have KXn := Lib.hid (KX.out.grew gx)
          clear KX
          have KX := KXn
          clear KXn
          have HAn := Lib.hid (own_grew HA.out gx)
          clear HA
          have HA := HAn
          clear HAn
          clear HS gx
          have HS := HSn
          clear HSn
          rw [← hY10]
          clear hY10
          refine hK.out _ _ HS.out (fun _ => ?_)
          clear hK K
          (try simp only [Act.put, List.setIfInBounds_toArray, List.set_cons_zero, List.set_cons_succ])
          refine wpAnyH_ready (rs := [6]) (by kernel_rfl) (by simp) ?_
          refine AllReadyH.cons (o := _) rfl (fun K hK => ?_) AllReadyH.nil
          · skip
            go_simp
            refine (KDX.out Y10 _ (Sl.of_own HA.out)).mono ?_
            rintro e Y11 ⟨lx, rfl, hox, gx⟩
            obtain ⟨la, lc, rfl⟩ := tx_len (Sl.of_own hox)
            have HSn := Lib.hid (HS.out.trans gx)
            have HC := Lib.hid (own_mono (base' := w3.heap.size) hox HS.out.size)
            have KXn := Lib.hid (KX.out.grew gx)
            clear KX
            have KX := KXn
            clear KXn
            have KYn := Lib.hid (KY.out.grew gx)
            clear KY
            have KY := KYn
            clear KYn
            clear hox gx HS HA
            have HS := HSn
            clear HSn
            go_simp
            refine hK.out _ _ HS.out (fun _ => ?_)
            clear hK K
            (try simp only [Act.put, List.setIfInBounds_toArray, List.set_cons_zero, List.set_cons_succ])
            refine wpAnyH_take (i := 7) (oi := ⟨some 61, _, _, _, _, _⟩) (v := .tuple #[.agg (msgA Dm (.slice la Dm.l.length lc)), .agg #[.int .i64 (De : Nat), .int .i64 Da]]) rfl (by kernel_rfl) (by kernel_rfl) (by kernel_rfl) (fun _ _ _ h => h) (Or.inl ⟨by rfl, ?_⟩) (by first | assumption | exact HS.out) ?_
            · intro V hV
              go_simp
              try rfl
            simp only [Act.put, List.setIfInBounds_toArray, List.set_cons_zero, List.set_cons_succ]
            refine wpAnyH_take (i := 8) (oi := ⟨some 69, _, _, _, _, _⟩) (v := .agg (msgA Dm (.slice la Dm.l.length lc))) rfl (by kernel_rfl) (by kernel_rfl) (by kernel_rfl) (fun _ _ _ h => h) (Or.inl ⟨by rfl, ?_⟩) (by first | assumption | exact HS.out) ?_
            · intro V hV
              go_simp
              try rfl
            simp only [Act.put, List.setIfInBounds_toArray, List.set_cons_zero, List.set_cons_succ]
            refine wpAnyH_take (i := 9) (oi := ⟨some 70, _, _, _, _, _⟩) (v := .agg #[.int .i64 (De : Nat), .int .i64 Da]) rfl (by kernel_rfl) (by kernel_rfl) (by kernel_rfl) (fun _ _ _ h => h) (Or.inl ⟨by rfl, ?_⟩) (by first | assumption | exact HS.out) ?_
            · intro V hV
              go_simp
              try rfl
            simp only [Act.put, List.setIfInBounds_toArray, List.set_cons_zero, List.set_cons_succ]
            refine wpAnyH_ready (rs := [12]) (by kernel_rfl) (by simp) ?_
            refine AllReadyH.cons (o := _) rfl (fun K hK => ?_) AllReadyH.nil
            refine wp_store_row 29 _ _ rfl Y1.heap.size (msgA Dm (.slice la Dm.l.length lc)) rfl rfl 29 _ KX.out (by kernel_rfl) rfl (msgA_one _ _ _ _) ?_
            obtain ⟨Wm, hWm⟩ : ∃ Wm, Wm = Y11.setRow Y1.heap.size (msgA Dm (.slice la Dm.l.length lc)) := ⟨_, rfl⟩
            have HSm := Lib.hid (show Grew w3 Wm by rw [hWm]; exact below_setRow HS.out HX.out _)
            have HCm := Lib.hid (show OwnT Wm w3.heap.size (.slice la Dm.l.length lc) Dm.l by rw [hWm]; exact own_block HC.out (fun g hg => setRow_other _ _ _ _ (fun e => blk_ne_row KX.out HC.out (by decide) (by subst e; exact hg.symm))))
            have KXm := Lib.hid (show Blk Wm Y1.heap.size 29 (msgA Dm (.slice la Dm.l.length lc)) by rw [hWm]; exact KX.out.row _)
            have KYm := Lib.hid (show Blk Wm Y7.heap.size 32 #[.int .i64 0, .int .i64 0] by rw [hWm]; exact KY.out.rowOther HXY.out.symm)
            rw [← hWm]
            clear hWm
            refine hK.out _ _ HSm.out (fun _ => ?_)
            clear hK K
            simp only [Act.put]
            refine wpAnyH_ready (rs := [13]) (by kernel_rfl) (by simp) ?_
            refine AllReadyH.cons (o := _) rfl (fun K hK => ?_) AllReadyH.nil
            refine wp_store_pair 32 _ _ rfl Y7.heap.size _ _ rfl rfl 32 _ KYm.out (by kernel_rfl) rfl rfl rfl ?_
            refine hK.out _ _ (below_setRow HSm.out HY.out _) (fun hl => ?_)
            clear hK K
            simp only [Act.put]
            refine wpAnyH_done (by kernel_rfl) ?_ _
            simp only [onlyN]
            exact ⟨((va, nc), (la, lc), Y1.heap.size, Y7.heap.size), rfl, KXm.out.rowOther HXY.out, KYm.out.row _, own_block HCm.out (fun g hg => setRow_other _ _ _ _ (fun e => blk_ne_row KYm.out HCm.out (by decide) (by subst e; exact hg.symm))), hl⟩
      · skip
        go_simp
        obtain ⟨Y12, hY12⟩ : ∃ V, V = Y1.alloc (.cells #[.int .i64 0, .int .i64 0] 32) := ⟨_, rfl⟩
        have gx : Grew Y1 Y12 := by rw [hY12]; exact grew_alloc _ _
        have KY := Lib.hid (show Blk Y12 Y1.heap.size 32 #[.int .i64 0, .int .i64 0] by rw [hY12]; exact Blk.new _ _ _)
        have HY := Lib.hid HS.out.size
        have HSn := Lib.hid (HS.out.trans gx)
        have HAn := Lib.hid (own_grew HA.out gx)
        clear HA
        have HA := HAn
        clear HAn
        clear HS gx
        have HS := HSn
        clear HSn
        rw [← hY12]
        clear hY12
        refine hK.out _ _ HS.out (fun _ => ?_)
        clear hK K
        (try simp only [Act.put, List.setIfInBounds_toArray, List.set_cons_zero, List.set_cons_succ])
        refine wpAnyH_ready (rs := [6, 10]) (by kernel_rfl) (by simp) ?_
        refine AllReadyH.cons (o := _) rfl (fun K hK => ?_) (AllReadyH.cons (o := _) rfl (fun K hK => ?_) AllReadyH.nil)
        · skip
          go_simp
          refine (KDX.out Y12 _ (Sl.of_own HA.out)).mono ?_
          rintro e Y13 ⟨lx, rfl, hox, gx⟩
          obtain ⟨la, lc, rfl⟩ := tx_len (Sl.of_own hox)
          have HSn := Lib.hid (HS.out.trans gx)
          have HC := Lib.hid (own_mono (base' := w3.heap.size) hox HS.out.size)
          have KYn := Lib.hid (KY.out.grew gx)
          clear KY
          have KY := KYn
          clear KYn
          clear hox gx HS HA
          have HS := HSn
          clear HSn
          go_simp
          refine hK.out _ _ HS.out (fun _ => ?_)
          clear hK K
          (try simp only [Act.put, List.setIfInBounds_toArray, List.set_cons_zero, List.set_cons_succ])
          refine wpAnyH_take (i := 7) (oi := ⟨some 61, _, _, _, _, _⟩) (v := .tuple #[.agg (msgA Dm (.slice la Dm.l.length lc)), .agg #[.int .i64 (De : Nat), .int .i64 Da]]) rfl (by kernel_rfl) (by kernel_rfl) (by kernel_rfl) (fun _ _ _ h => h) (Or.inl ⟨by rfl, ?_⟩) (by first | assumption | exact HS.out) ?_
          · intro V hV
            go_simp
            try rfl
          simp only [Act.put, List.setIfInBounds_toArray, List.set_cons_zero, List.set_cons_succ]
          refine wpAnyH_take (i := 8) (oi := ⟨some 69, _, _, _, _, _⟩) (v := .agg (msgA Dm (.slice la Dm.l.length lc))) rfl (by kernel_rfl) (by kernel_rfl) (by kernel_rfl) (fun _ _ _ h => h) (Or.inl ⟨by rfl, ?_⟩) (by first | assumption | exact HS.out) ?_
          · intro V hV
            go_simp
            try rfl
          simp only [Act.put, List.setIfInBounds_toArray, List.set_cons_zero, List.set_cons_succ]
          refine wpAnyH_take (i := 9) (oi := ⟨some 70, _, _, _, _, _⟩) (v := .agg #[.int .i64 (De : Nat), .int .i64 Da]) rfl (by kernel_rfl) (by kernel_rfl) (by kernel_rfl) (fun _ _ _ h => h) (Or.inl ⟨by rfl, ?_⟩) (by first | assumption | exact HS.out) ?_
          · intro V hV
            go_simp
            try rfl
          simp only [Act.put, List.setIfInBounds_toArray, List.set_cons_zero, List.set_cons_succ]
          refine wpAnyH_ready (rs := [10]) (by kernel_rfl) (by simp) ?_
          refine AllReadyH.cons (o := _) rfl (fun K hK => ?_) AllReadyH.nil
          · skip
            go_simp
            obtain ⟨Y14, hY14⟩ : ∃ V, V = Y13.alloc (.cells zMsg 29) := ⟨_, rfl⟩
            have gx : Grew Y13 Y14 := by rw [hY14]; exact grew_alloc _ _
            have KX := Lib.hid (show Blk Y14 Y13.heap.size 29 zMsg by rw [hY14]; exact Blk.new _ _ _)
            have HX := Lib.hid HS.out.size
            have HSn := Lib.hid (HS.out.trans gx)
            have HXY := Lib.hid (show Y13.heap.size ≠ Y1.heap.size by have h := KY.out.lt; omega)
            have KYn := Lib.hid (KY.out.grew gx)
            clear KY
            have KY := KYn
            clear KYn
            have HCn := Lib.hid (own_grew HC.out gx)
            clear HC
            have HC := HCn
            clear HCn
            clear HS gx
            have HS := HSn
            clear HSn
            simp only [zMsg] at hY14
            rw [← hY14]
            clear hY14
            refine hK.out _ _ HS.out (fun _ => ?_)
            clear hK K
            (try simp only [Act.put, List.setIfInBounds_toArray, List.set_cons_zero, List.set_cons_succ])
            refine wpAnyH_ready (rs := [12]) (by kernel_rfl) (by simp) ?_
            refine AllReadyH.cons (o := _) rfl (fun K hK => ?_) AllReadyH.nil
            refine wp_store_row 29 _ _ rfl Y13.heap.size (msgA Dm (.slice la Dm.l.length lc)) rfl rfl 29 _ KX.out (by kernel_rfl) rfl (msgA_one _ _ _ _) ?_
            obtain ⟨Wm, hWm⟩ : ∃ Wm, Wm = Y14.setRow Y13.heap.size (msgA Dm (.slice la Dm.l.length lc)) := ⟨_, rfl⟩
            have HSm := Lib.hid (show Grew w3 Wm by rw [hWm]; exact below_setRow HS.out HX.out _)
            have HCm := Lib.hid (show OwnT Wm w3.heap.size (.slice la Dm.l.length lc) Dm.l by rw [hWm]; exact own_block HC.out (fun g hg => setRow_other _ _ _ _ (fun e => blk_ne_row KX.out HC.out (by decide) (by subst e; exact hg.symm))))
            have KXm := Lib.hid (show Blk Wm Y13.heap.size 29 (msgA Dm (.slice la Dm.l.length lc)) by rw [hWm]; exact KX.out.row _)
            have KYm := Lib.hid (show Blk Wm Y1.heap.size 32 #[.int .i64 0, .int .i64 0] by rw [hWm]; exact KY.out.rowOther HXY.out.symm)
            rw [← hWm]
            clear hWm
            refine hK.out _ _ HSm.out (fun _ => ?_)
            clear hK K
            simp only [Act.put]
            refine wpAnyH_ready (rs := [13]) (by kernel_rfl) (by simp) ?_
            refine AllReadyH.cons (o := _) rfl (fun K hK => ?_) AllReadyH.nil
            refine wp_store_pair 32 _ _ rfl Y1.heap.size _ _ rfl rfl 32 _ KYm.out (by kernel_rfl) rfl rfl rfl ?_
            refine hK.out _ _ (below_setRow HSm.out HY.out _) (fun hl => ?_)
            clear hK K
            simp only [Act.put]
            refine wpAnyH_done (by kernel_rfl) ?_ _
            simp only [onlyN]
            exact ⟨((va, nc), (la, lc), Y13.heap.size, Y1.heap.size), rfl, KXm.out.rowOther HXY.out, KYm.out.row _, own_block HCm.out (fun g hg => setRow_other _ _ _ _ (fun e => blk_ne_row KYm.out HCm.out (by decide) (by subst e; exact hg.symm))), hl⟩
        · skip
          go_simp
          obtain ⟨Y15, hY15⟩ : ∃ V, V = Y12.alloc (.cells zMsg 29) := ⟨_, rfl⟩
          have gx : Grew Y12 Y15 := by rw [hY15]; exact grew_alloc _ _
          have KX := Lib.hid (show Blk Y15 Y12.heap.size 29 zMsg by rw [hY15]; exact Blk.new _ _ _)
          have HX := Lib.hid HS.out.size
          have HSn := Lib.hid (HS.out.trans gx)
          have HXY := Lib.hid (show Y12.heap.size ≠ Y1.heap.size by have h := KY.out.lt; omega)
          have KYn := Lib.hid (KY.out.grew gx)
          clear KY
          have KY := KYn
          clear KYn
          have HAn := Lib.hid (own_grew HA.out gx)
          clear HA
          have HA := HAn
          clear HAn
          clear HS gx
          have HS := HSn
          clear HSn
          simp only [zMsg] at hY15
          rw [← hY15]
          clear hY15
          refine hK.out _ _ HS.out (fun _ => ?_)
          clear hK K
          (try simp only [Act.put, List.setIfInBounds_toArray, List.set_cons_zero, List.set_cons_succ])
          refine wpAnyH_ready (rs := [6]) (by kernel_rfl) (by simp) ?_
          refine AllReadyH.cons (o := _) rfl (fun K hK => ?_) AllReadyH.nil
          · skip
            go_simp
            refine (KDX.out Y15 _ (Sl.of_own HA.out)).mono ?_
            rintro e Y16 ⟨lx, rfl, hox, gx⟩
            obtain ⟨la, lc, rfl⟩ := tx_len (Sl.of_own hox)
            have HSn := Lib.hid (HS.out.trans gx)
            have HC := Lib.hid (own_mono (base' := w3.heap.size) hox HS.out.size)
            have KXn := Lib.hid (KX.out.grew gx)
            clear KX
            have KX := KXn
            clear KXn
            have KYn := Lib.hid (KY.out.grew gx)
            clear KY
            have KY := KYn
            clear KYn
            clear hox gx HS HA
            have HS := HSn
            clear HSn
            go_simp
            refine hK.out _ _ HS.out (fun _ => ?_)
            clear hK K
            (try simp only [Act.put, List.setIfInBounds_toArray, List.set_cons_zero, List.set_cons_succ])
            refine wpAnyH_take (i := 7) (oi := ⟨some 61, _, _, _, _, _⟩) (v := .tuple #[.agg (msgA Dm (.slice la Dm.l.length lc)), .agg #[.int .i64 (De : Nat), .int .i64 Da]]) rfl (by kernel_rfl) (by kernel_rfl) (by kernel_rfl) (fun _ _ _ h => h) (Or.inl ⟨by rfl, ?_⟩) (by first | assumption | exact HS.out) ?_
            · intro V hV
              go_simp
              try rfl
            simp only [Act.put, List.setIfInBounds_toArray, List.set_cons_zero, List.set_cons_succ]
            refine wpAnyH_take (i := 8) (oi := ⟨some 69, _, _, _, _, _⟩) (v := .agg (msgA Dm (.slice la Dm.l.length lc))) rfl (by kernel_rfl) (by kernel_rfl) (by kernel_rfl) (fun _ _ _ h => h) (Or.inl ⟨by rfl, ?_⟩) (by first | assumption | exact HS.out) ?_
            · intro V hV
              go_simp
              try rfl
            simp only [Act.put, List.setIfInBounds_toArray, List.set_cons_zero, List.set_cons_succ]
            refine wpAnyH_take (i := 9) (oi := ⟨some 70, _, _, _, _, _⟩) (v := .agg #[.int .i64 (De : Nat), .int .i64 Da]) rfl (by kernel_rfl) (by kernel_rfl) (by kernel_rfl) (fun _ _ _ h => h) (Or.inl ⟨by rfl, ?_⟩) (by first | assumption | exact HS.out) ?_
            · intro V hV
              go_simp
              try rfl
            simp only [Act.put, List.setIfInBounds_toArray, List.set_cons_zero, List.set_cons_succ]
            refine wpAnyH_ready (rs := [12]) (by kernel_rfl) (by simp) ?_
            refine AllReadyH.cons (o := _) rfl (fun K hK => ?_) AllReadyH.nil
            refine wp_store_row 29 _ _ rfl Y12.heap.size (msgA Dm (.slice la Dm.l.length lc)) rfl rfl 29 _ KX.out (by kernel_rfl) rfl (msgA_one _ _ _ _) ?_
            obtain ⟨Wm, hWm⟩ : ∃ Wm, Wm = Y16.setRow Y12.heap.size (msgA Dm (.slice la Dm.l.length lc)) := ⟨_, rfl⟩
            have HSm := Lib.hid (show Grew w3 Wm by rw [hWm]; exact below_setRow HS.out HX.out _)
            have HCm := Lib.hid (show OwnT Wm w3.heap.size (.slice la Dm.l.length lc) Dm.l by rw [hWm]; exact own_block HC.out (fun g hg => setRow_other _ _ _ _ (fun e => blk_ne_row KX.out HC.out (by decide) (by subst e; exact hg.symm))))
            have KXm := Lib.hid (show Blk Wm Y12.heap.size 29 (msgA Dm (.slice la Dm.l.length lc)) by rw [hWm]; exact KX.out.row _)
            have KYm := Lib.hid (show Blk Wm Y1.heap.size 32 #[.int .i64 0, .int .i64 0] by rw [hWm]; exact KY.out.rowOther HXY.out.symm)
            rw [← hWm]
            clear hWm
            refine hK.out _ _ HSm.out (fun _ => ?_)
            clear hK K
            simp only [Act.put]
            refine wpAnyH_ready (rs := [13]) (by kernel_rfl) (by simp) ?_
            refine AllReadyH.cons (o := _) rfl (fun K hK => ?_) AllReadyH.nil
            refine wp_store_pair 32 _ _ rfl Y1.heap.size _ _ rfl rfl 32 _ KYm.out (by kernel_rfl) rfl rfl rfl ?_
            refine hK.out _ _ (below_setRow HSm.out HY.out _) (fun hl => ?_)
            clear hK K
            simp only [Act.put]
            refine wpAnyH_done (by kernel_rfl) ?_ _
            simp only [onlyN]
            exact ⟨((va, nc), (la, lc), Y12.heap.size, Y1.heap.size), rfl, KXm.out.rowOther HXY.out, KYm.out.row _, own_block HCm.out (fun g hg => setRow_other _ _ _ _ (fun e => blk_ne_row KYm.out HCm.out (by decide) (by subst e; exact hg.symm))), hl⟩
    · skip
      go_simp
      obtain ⟨Y17, hY17⟩ : ∃ V, V = Y0.alloc (.cells zMsg 29) := ⟨_, rfl⟩
      have gx : Grew Y0 Y17 := by rw [hY17]; exact grew_alloc _ _
      have KX := Lib.hid (show Blk Y17 Y0.heap.size 29 zMsg by rw [hY17]; exact Blk.new _ _ _)
      have HX := Lib.hid HS.out.size
      have HSn := Lib.hid (HS.out.trans gx)
      have HVn := Lib.hid (HV.out.trans gx)
      clear HV
      have HV := HVn
      clear HVn
      clear HS gx
      have HS := HSn
      clear HSn
      simp only [zMsg] at hY17
      rw [← hY17]
      clear hY17
      refine hK.out _ _ HS.out (fun _ => ?_)
      clear hK K
      (try simp only [Act.put, List.setIfInBounds_toArray, List.set_cons_zero, List.set_cons_succ])
      refine wpAnyH_ready (rs := [5, 11]) (by kernel_rfl) (by simp) ?_
      refine AllReadyH.cons (o := _) rfl (fun K hK => ?_) (AllReadyH.cons (o := _) rfl (fun K hK => ?_) AllReadyH.nil)
      · skip
        refine step_of_list ?_
        refine wpList_push2 rfl _ _ rfl w3.heap.size (.slice a4 B.length c4') B rfl (own_grew HO4.out (M5.out.trans HV.out)) (.slice a5 B'.length c5') rfl B' (Sl.of_own (own_grew HO5.out HV.out)) (by have := HLN.out; omega) (by have := HS.out.size; omega) ?_
        intro vx Y18 hown hB hgb _
        rw [← HXE.out] at hown
        obtain ⟨va, nc, rfl⟩ := bs_len (Sl.of_own hown)
        have HSn := Lib.hid (show Grew w3 Y18 from Below.trans HS.out hB)
        have HA := Lib.hid hown
        have KXn := Lib.hid (KX.out.kept hgb (blk_ne_row KX.out (own_grew HO4.out (M5.out.trans HV.out)) (by decide)))
        clear KX
        have KX := KXn
        clear KXn
        clear hgb hB HS HV
        have HS := HSn
        clear HSn hown
        refine hK.out _ _ HS.out (fun _ => ?_)
        clear hK K
        (try simp only [Act.put, List.setIfInBounds_toArray])
        refine wpAnyH_ready (rs := [6, 11]) (by kernel_rfl) (by simp) ?_
        refine AllReadyH.cons (o := _) rfl (fun K hK => ?_) (AllReadyH.cons (o := _) rfl (fun K hK => ?_) AllReadyH.nil)
        · skip
          go_simp
          refine (KDX.out Y18 _ (Sl.of_own HA.out)).mono ?_
          rintro e Y19 ⟨lx, rfl, hox, gx⟩
          obtain ⟨la, lc, rfl⟩ := tx_len (Sl.of_own hox)
          have HSn := Lib.hid (HS.out.trans gx)
          have HC := Lib.hid (own_mono (base' := w3.heap.size) hox HS.out.size)
          have KXn := Lib.hid (KX.out.grew gx)
          clear KX
          have KX := KXn
          clear KXn
          clear hox gx HS HA
          have HS := HSn
          clear HSn
          go_simp
          refine hK.out _ _ HS.out (fun _ => ?_)
          clear hK K
          (try simp only [Act.put, List.setIfInBounds_toArray, List.set_cons_zero, List.set_cons_succ])
          refine wpAnyH_take (i := 7) (oi := ⟨some 61, _, _, _, _, _⟩) (v := .tuple #[.agg (msgA Dm (.slice la Dm.l.length lc)), .agg #[.int .i64 (De : Nat), .int .i64 Da]]) rfl (by kernel_rfl) (by kernel_rfl) (by kernel_rfl) (fun _ _ _ h => h) (Or.inl ⟨by rfl, ?_⟩) (by first | assumption | exact HS.out) ?_
          · intro V hV
            go_simp
            try rfl
          simp only [Act.put, List.setIfInBounds_toArray, List.set_cons_zero, List.set_cons_succ]
          refine wpAnyH_take (i := 8) (oi := ⟨some 69, _, _, _, _, _⟩) (v := .agg (msgA Dm (.slice la Dm.l.length lc))) rfl (by kernel_rfl) (by kernel_rfl) (by kernel_rfl) (fun _ _ _ h => h) (Or.inl ⟨by rfl, ?_⟩) (by first | assumption | exact HS.out) ?_
          · intro V hV
            go_simp
            try rfl
          simp only [Act.put, List.setIfInBounds_toArray, List.set_cons_zero, List.set_cons_succ]
          refine wpAnyH_take (i := 9) (oi := ⟨some 70, _, _, _, _, _⟩) (v := .agg #[.int .i64 (De : Nat), .int .i64 Da]) rfl (by kernel_rfl) (by kernel_rfl) (by kernel_rfl) (fun _ _ _ h => h) (Or.inl ⟨by rfl, ?_⟩) (by first | assumption | exact HS.out) ?_
          · intro V hV
            go_simp
            try rfl
          simp only [Act.put, List.setIfInBounds_toArray, List.set_cons_zero, List.set_cons_succ]
          refine wpAnyH_ready (rs := [11]) (by kernel_rfl) (by simp) ?_
          refine AllReadyH.cons (o := _) rfl (fun K hK => ?_) AllReadyH.nil
          · skip
            go_simp
            obtain ⟨Y20, hY20⟩ : ∃ V, V = Y19.alloc (.cells #[.int .i64 0, .int .i64 0] 32) := ⟨_, rfl⟩
            have gx : Grew Y19 Y20 := by rw [hY20]; exact grew_alloc _ _
            have KY := Lib.hid (show Blk Y20 Y19.heap.size 32 #[.int .i64 0, .int .i64 0] by rw [hY20]; exact Blk.new _ _ _)
            have HY := Lib.hid HS.out.size
            have HSn := Lib.hid (HS.out.trans gx)
            have HXY := Lib.hid (show Y0.heap.size ≠ Y19.heap.size by have h := KX.out.lt; omega)
            have KXn := Lib.hid (KX.out.grew gx)
            clear KX
            have KX := KXn
            clear KXn
            have HCn := Lib.hid (own_grew HC.out gx)
            clear HC
            have HC := HCn
            clear HCn
            clear HS gx
            have HS := HSn
            clear HSn
            rw [← hY20]
            clear hY20
            refine hK.out _ _ HS.out (fun _ => ?_)
            clear hK K
            (try simp only [Act.put, List.setIfInBounds_toArray, List.set_cons_zero, List.set_cons_succ])
            refine wpAnyH_ready (rs := [12]) (by kernel_rfl) (by simp) ?_
            refine AllReadyH.cons (o := _) rfl (fun K hK => ?_) AllReadyH.nil
            refine wp_store_row 29 _ _ rfl Y0.heap.size (msgA Dm (.slice la Dm.l.length lc)) rfl rfl 29 _ KX.out (by kernel_rfl) rfl (msgA_one _ _ _ _) ?_
            obtain ⟨Wm, hWm⟩ : ∃ Wm, Wm = Y20.setRow Y0.heap.size (msgA Dm (.slice la Dm.l.length lc)) := ⟨_, rfl⟩
            have HSm := Lib.hid (show Grew w3 Wm by rw [hWm]; exact below_setRow HS.out HX.out _)
            have HCm := Lib.hid (show OwnT Wm w3.heap.size (.slice la Dm.l.length lc) Dm.l by rw [hWm]; exact own_block HC.out (fun g hg => setRow_other _ _ _ _ (fun e => blk_ne_row KX.out HC.out (by decide) (by subst e; exact hg.symm))))
            have KXm := Lib.hid (show Blk Wm Y0.heap.size 29 (msgA Dm (.slice la Dm.l.length lc)) by rw [hWm]; exact KX.out.row _)
            have KYm := Lib.hid (show Blk Wm Y19.heap.size 32 #[.int .i64 0, .int .i64 0] by rw [hWm]; exact KY.out.rowOther HXY.out.symm)
            rw [← hWm]
            clear hWm
            refine hK.out _ _ HSm.out (fun _ => ?_)
            clear hK K
            simp only [Act.put]
            refine wpAnyH_ready (rs := [13]) (by kernel_rfl) (by simp) ?_
            refine AllReadyH.cons (o := _) rfl (fun K hK => ?_) AllReadyH.nil
            refine wp_store_pair 32 _ _ rfl Y19.heap.size _ _ rfl rfl 32 _ KYm.out (by kernel_rfl) rfl rfl rfl ?_
            refine hK.out _ _ (below_setRow HSm.out HY.out _) (fun hl => ?_)
            clear hK K
            simp only [Act.put]
            refine wpAnyH_done (by kernel_rfl) ?_ _
            simp only [onlyN]
            exact ⟨((va, nc), (la, lc), Y0.heap.size, Y19.heap.size), rfl, KXm.out.rowOther HXY.out, KYm.out.row _, own_block HCm.out (fun g hg => setRow_other _ _ _ _ (fun e => blk_ne_row KYm.out HCm.out (by decide) (by subst e; exact hg.symm))), hl⟩
        · skip
          go_simp
          obtain ⟨Y21, hY21⟩ : ∃ V, V = Y18.alloc (.cells #[.int .i64 0, .int .i64 0] 32) := ⟨_, rfl⟩
          have gx : Grew Y18 Y21 := by rw [hY21]; exact grew_alloc _ _
          have KY := Lib.hid (show Blk Y21 Y18.heap.size 32 #[.int .i64 0, .int .i64 0] by rw [hY21]; exact Blk.new _ _ _)
          have HY := Lib.hid HS.out.size
          have HSn := Lib.hid (HS.out.trans gx)
          have HXY := Lib.hid (show Y0.heap.size ≠ Y18.heap.size by have h := KX.out.lt; omega)
          have KXn := Lib.hid (KX.out.grew gx)
          clear KX
          have KX := KXn
          clear KXn
          have HAn := Lib.hid (own_grew HA.out gx)
          clear HA
          have HA := HAn
          clear HAn
          clear HS gx
          have HS := HSn
          clear HSn
          rw [← hY21]
          clear hY21
          refine hK.out _ _ HS.out (fun _ => ?_)
          clear hK K
          (try simp only [Act.put, List.setIfInBounds_toArray, List.set_cons_zero, List.set_cons_succ])
          refine wpAnyH_ready (rs := [6]) (by kernel_rfl) (by simp) ?_
          refine AllReadyH.cons (o := _) rfl (fun K hK => ?_) AllReadyH.nil
          · skip
            go_simp
            refine (KDX.out Y21 _ (Sl.of_own HA.out)).mono ?_
            rintro e Y22 ⟨lx, rfl, hox, gx⟩
            obtain ⟨la, lc, rfl⟩ := tx_len (Sl.of_own hox)
            have HSn := Lib.hid (HS.out.trans gx)
            have HC := Lib.hid (own_mono (base' := w3.heap.size) hox HS.out.size)
            have KXn := Lib.hid (KX.out.grew gx)
            clear KX
            have KX := KXn
            clear KXn
            have KYn := Lib.hid (KY.out.grew gx)
            clear KY
            have KY := KYn
            clear KYn
            clear hox gx HS HA
            have HS := HSn
            clear HSn
            go_simp
            refine hK.out _ _ HS.out (fun _ => ?_)
            clear hK K
            (try simp only [Act.put, List.setIfInBounds_toArray, List.set_cons_zero, List.set_cons_succ])
            refine wpAnyH_take (i := 7) (oi := ⟨some 61, _, _, _, _, _⟩) (v := .tuple #[.agg (msgA Dm (.slice la Dm.l.length lc)), .agg #[.int .i64 (De : Nat), .int .i64 Da]]) rfl (by kernel_rfl) (by kernel_rfl) (by kernel_rfl) (fun _ _ _ h => h) (Or.inl ⟨by rfl, ?_⟩) (by first | assumption | exact HS.out) ?_
            · intro V hV
              go_simp
              try rfl
            simp only [Act.put, List.setIfInBounds_toArray, List.set_cons_zero, List.set_cons_succ]
            refine wpAnyH_take (i := 8) (oi := ⟨some 69, _, _, _, _, _⟩) (v := .agg (msgA Dm (.slice la Dm.l.length lc))) rfl (by kernel_rfl) (by kernel_rfl) (by kernel_rfl) (fun _ _ _ h => h) (Or.inl ⟨by rfl, ?_⟩) (by first | assumption | exact HS.out) ?_
            · intro V hV
              go_simp
              try rfl
            simp only [Act.put, List.setIfInBounds_toArray, List.set_cons_zero, List.set_cons_succ]
            refine wpAnyH_take (i := 9) (oi := ⟨some 70, _, _, _, _, _⟩) (v := .agg #[.int .i64 (De : Nat), .int .i64 Da]) rfl (by kernel_rfl) (by kernel_rfl) (by kernel_rfl) (fun _ _ _ h => h) (Or.inl ⟨by rfl, ?_⟩) (by first | assumption | exact HS.out) ?_
            · intro V hV
              go_simp
              try rfl
            simp only [Act.put, List.setIfInBounds_toArray, List.set_cons_zero, List.set_cons_succ]
            refine wpAnyH_ready (rs := [12]) (by kernel_rfl) (by simp) ?_
            refine AllReadyH.cons (o := _) rfl (fun K hK => ?_) AllReadyH.nil
            refine wp_store_row 29 _ _ rfl Y0.heap.size (msgA Dm (.slice la Dm.l.length lc)) rfl rfl 29 _ KX.out (by kernel_rfl) rfl (msgA_one _ _ _ _) ?_
            obtain ⟨Wm, hWm⟩ : ∃ Wm, Wm = Y22.setRow Y0.heap.size (msgA Dm (.slice la Dm.l.length lc)) := ⟨_, rfl⟩
            have HSm := Lib.hid (show Grew w3 Wm by rw [hWm]; exact below_setRow HS.out HX.out _)
            have HCm := Lib.hid (show OwnT Wm w3.heap.size (.slice la Dm.l.length lc) Dm.l by rw [hWm]; exact own_block HC.out (fun g hg => setRow_other _ _ _ _ (fun e => blk_ne_row KX.out HC.out (by decide) (by subst e; exact hg.symm))))
            have KXm := Lib.hid (show Blk Wm Y0.heap.size 29 (msgA Dm (.slice la Dm.l.length lc)) by rw [hWm]; exact KX.out.row _)
            have KYm := Lib.hid (show Blk Wm Y18.heap.size 32 #[.int .i64 0, .int .i64 0] by rw [hWm]; exact KY.out.rowOther HXY.out.symm)
            rw [← hWm]
            clear hWm
            refine hK.out _ _ HSm.out (fun _ => ?_)
            clear hK K
            simp only [Act.put]
            refine wpAnyH_ready (rs := [13]) (by kernel_rfl) (by simp) ?_
            refine AllReadyH.cons (o := _) rfl (fun K hK => ?_) AllReadyH.nil
            refine wp_store_pair 32 _ _ rfl Y18.heap.size _ _ rfl rfl 32 _ KYm.out (by kernel_rfl) rfl rfl rfl ?_
            refine hK.out _ _ (below_setRow HSm.out HY.out _) (fun hl => ?_)
            clear hK K
            simp only [Act.put]
            refine wpAnyH_done (by kernel_rfl) ?_ _
            simp only [onlyN]
            exact ⟨((va, nc), (la, lc), Y0.heap.size, Y18.heap.size), rfl, KXm.out.rowOther HXY.out, KYm.out.row _, own_block HCm.out (fun g hg => setRow_other _ _ _ _ (fun e => blk_ne_row KYm.out HCm.out (by decide) (by subst e; exact hg.symm))), hl⟩
      · skip
        go_simp
        obtain ⟨Y23, hY23⟩ : ∃ V, V = Y17.alloc (.cells #[.int .i64 0, .int .i64 0] 32) := ⟨_, rfl⟩
        have gx : Grew Y17 Y23 := by rw [hY23]; exact grew_alloc _ _
        have KY := Lib.hid (show Blk Y23 Y17.heap.size 32 #[.int .i64 0, .int .i64 0] by rw [hY23]; exact Blk.new _ _ _)
        have HY := Lib.hid HS.out.size
        have HSn := Lib.hid (HS.out.trans gx)
        have HXY := Lib.hid (show Y0.heap.size ≠ Y17.heap.size by have h := KX.out.lt; omega)
        have KXn := Lib.hid (KX.out.grew gx)
        clear KX
        have KX := KXn
        clear KXn
        have HVn := Lib.hid (HV.out.trans gx)
        clear HV
        have HV := HVn
        clear HVn
        clear HS gx
        have HS := HSn
        clear HSn
        rw [← hY23]
        clear hY23
        refine hK.out _ _ HS.out (fun _ => ?_)
        clear hK K
        (try simp only [Act.put, List.setIfInBounds_toArray, List.set_cons_zero, List.set_cons_succ])
        refine wpAnyH_ready (rs := [5]) (by kernel_rfl) (by simp) ?_
        refine AllReadyH.cons (o := _) rfl (fun K hK => ?_) AllReadyH.nil
        · skip
          refine step_of_list ?_
          refine wpList_push2 rfl _ _ rfl w3.heap.size (.slice a4 B.length c4') B rfl (own_grew HO4.out (M5.out.trans HV.out)) (.slice a5 B'.length c5') rfl B' (Sl.of_own (own_grew HO5.out HV.out)) (by have := HLN.out; omega) (by have := HS.out.size; omega) ?_
          intro vx Y24 hown hB hgb _
          rw [← HXE.out] at hown
          obtain ⟨va, nc, rfl⟩ := bs_len (Sl.of_own hown)
          have HSn := Lib.hid (show Grew w3 Y24 from Below.trans HS.out hB)
          have HA := Lib.hid hown
          have KXn := Lib.hid (KX.out.kept hgb (blk_ne_row KX.out (own_grew HO4.out (M5.out.trans HV.out)) (by decide)))
          clear KX
          have KX := KXn
          clear KXn
          have KYn := Lib.hid (KY.out.kept hgb (blk_ne_row KY.out (own_grew HO4.out (M5.out.trans HV.out)) (by decide)))
          clear KY
          have KY := KYn
          clear KYn
          clear hgb hB HS HV
          have HS := HSn
          clear HSn hown
          refine hK.out _ _ HS.out (fun _ => ?_)
          clear hK K
          (try simp only [Act.put, List.setIfInBounds_toArray])
          refine wpAnyH_ready (rs := [6]) (by kernel_rfl) (by simp) ?_
          refine AllReadyH.cons (o := _) rfl (fun K hK => ?_) AllReadyH.nil
          · skip
            go_simp
            refine (KDX.out Y24 _ (Sl.of_own HA.out)).mono ?_
            rintro e Y25 ⟨lx, rfl, hox, gx⟩
            obtain ⟨la, lc, rfl⟩ := tx_len (Sl.of_own hox)
            have HSn := Lib.hid (HS.out.trans gx)
            have HC := Lib.hid (own_mono (base' := w3.heap.size) hox HS.out.size)
            have KXn := Lib.hid (KX.out.grew gx)
            clear KX
            have KX := KXn
            clear KXn
            have KYn := Lib.hid (KY.out.grew gx)
            clear KY
            have KY := KYn
            clear KYn
            clear hox gx HS HA
            have HS := HSn
            clear HSn
            go_simp
            refine hK.out _ _ HS.out (fun _ => ?_)
            clear hK K
            (try simp only [Act.put, List.setIfInBounds_toArray, List.set_cons_zero, List.set_cons_succ])
            refine wpAnyH_take (i := 7) (oi := ⟨some 61, _, _, _, _, _⟩) (v := .tuple #[.agg (msgA Dm (.slice la Dm.l.length lc)), .agg #[.int .i64 (De : Nat), .int .i64 Da]]) rfl (by kernel_rfl) (by kernel_rfl) (by kernel_rfl) (fun _ _ _ h => h) (Or.inl ⟨by rfl, ?_⟩) (by first | assumption | exact HS.out) ?_
            · intro V hV
              go_simp
              try rfl
            simp only [Act.put, List.setIfInBounds_toArray, List.set_cons_zero, List.set_cons_succ]
            refine wpAnyH_take (i := 8) (oi := ⟨some 69, _, _, _, _, _⟩) (v := .agg (msgA Dm (.slice la Dm.l.length lc))) rfl (by kernel_rfl) (by kernel_rfl) (by kernel_rfl) (fun _ _ _ h => h) (Or.inl ⟨by rfl, ?_⟩) (by first | assumption | exact HS.out) ?_
            · intro V hV
              go_simp
              try rfl
            simp only [Act.put, List.setIfInBounds_toArray, List.set_cons_zero, List.set_cons_succ]
            refine wpAnyH_take (i := 9) (oi := ⟨some 70, _, _, _, _, _⟩) (v := .agg #[.int .i64 (De : Nat), .int .i64 Da]) rfl (by kernel_rfl) (by kernel_rfl) (by kernel_rfl) (fun _ _ _ h => h) (Or.inl ⟨by rfl, ?_⟩) (by first | assumption | exact HS.out) ?_
            · intro V hV
              go_simp
              try rfl
            simp only [Act.put, List.setIfInBounds_toArray, List.set_cons_zero, List.set_cons_succ]
            refine wpAnyH_ready (rs := [12]) (by kernel_rfl) (by simp) ?_
            refine AllReadyH.cons (o := _) rfl (fun K hK => ?_) AllReadyH.nil
            refine wp_store_row 29 _ _ rfl Y0.heap.size (msgA Dm (.slice la Dm.l.length lc)) rfl rfl 29 _ KX.out (by kernel_rfl) rfl (msgA_one _ _ _ _) ?_
            obtain ⟨Wm, hWm⟩ : ∃ Wm, Wm = Y25.setRow Y0.heap.size (msgA Dm (.slice la Dm.l.length lc)) := ⟨_, rfl⟩
            have HSm := Lib.hid (show Grew w3 Wm by rw [hWm]; exact below_setRow HS.out HX.out _)
            have HCm := Lib.hid (show OwnT Wm w3.heap.size (.slice la Dm.l.length lc) Dm.l by rw [hWm]; exact own_block HC.out (fun g hg => setRow_other _ _ _ _ (fun e => blk_ne_row KX.out HC.out (by decide) (by subst e; exact hg.symm))))
            have KXm := Lib.hid (show Blk Wm Y0.heap.size 29 (msgA Dm (.slice la Dm.l.length lc)) by rw [hWm]; exact KX.out.row _)
            have KYm := Lib.hid (show Blk Wm Y17.heap.size 32 #[.int .i64 0, .int .i64 0] by rw [hWm]; exact KY.out.rowOther HXY.out.symm)
            rw [← hWm]
            clear hWm
            refine hK.out _ _ HSm.out (fun _ => ?_)
            clear hK K
            simp only [Act.put]
            refine wpAnyH_ready (rs := [13]) (by kernel_rfl) (by simp) ?_
            refine AllReadyH.cons (o := _) rfl (fun K hK => ?_) AllReadyH.nil
            refine wp_store_pair 32 _ _ rfl Y17.heap.size _ _ rfl rfl 32 _ KYm.out (by kernel_rfl) rfl rfl rfl ?_
            refine hK.out _ _ (below_setRow HSm.out HY.out _) (fun hl => ?_)
            clear hK K
            simp only [Act.put]
            refine wpAnyH_done (by kernel_rfl) ?_ _
            simp only [onlyN]
            exact ⟨((va, nc), (la, lc), Y0.heap.size, Y17.heap.size), rfl, KXm.out.rowOther HXY.out, KYm.out.row _, own_block HCm.out (fun g hg => setRow_other _ _ _ _ (fun e => blk_ne_row KYm.out HCm.out (by decide) (by subst e; exact hg.symm))), hl⟩
    · skip
      go_simp
      obtain ⟨Y26, hY26⟩ : ∃ V, V = Y0.alloc (.cells #[.int .i64 0, .int .i64 0] 32) := ⟨_, rfl⟩
      have gx : Grew Y0 Y26 := by rw [hY26]; exact grew_alloc _ _
      have KY := Lib.hid (show Blk Y26 Y0.heap.size 32 #[.int .i64 0, .int .i64 0] by rw [hY26]; exact Blk.new _ _ _)
      have HY := Lib.hid HS.out.size
      have HSn := Lib.hid (HS.out.trans gx)
      have HVn := Lib.hid (HV.out.trans gx)
      clear HV
      have HV := HVn
      clear HVn
      clear HS gx
      have HS := HSn
      clear HSn
      rw [← hY26]
      clear hY26
      refine hK.out _ _ HS.out (fun _ => ?_)
      clear hK K
      (try simp only [Act.put, List.setIfInBounds_toArray, List.set_cons_zero, List.set_cons_succ])
      refine wpAnyH_ready (rs := [5, 10]) (by kernel_rfl) (by simp) ?_
      refine AllReadyH.cons (o := _) rfl (fun K hK => ?_) (AllReadyH.cons (o := _) rfl (fun K hK => ?_) AllReadyH.nil)
      · skip
        refine step_of_list ?_
        refine wpList_push2 rfl _ _ rfl w3.heap.size (.slice a4 B.length c4') B rfl (own_grew HO4.out (M5.out.trans HV.out)) (.slice a5 B'.length c5') rfl B' (Sl.of_own (own_grew HO5.out HV.out)) (by have := HLN.out; omega) (by have := HS.out.size; omega) ?_
        intro vx Y27 hown hB hgb _
        rw [← HXE.out] at hown
        obtain ⟨va, nc, rfl⟩ := bs_len (Sl.of_own hown)
        have HSn := Lib.hid (show Grew w3 Y27 from Below.trans HS.out hB)
        have HA := Lib.hid hown
        have KYn := Lib.hid (KY.out.kept hgb (blk_ne_row KY.out (own_grew HO4.out (M5.out.trans HV.out)) (by decide)))
        clear KY
        have KY := KYn
        clear KYn
        clear hgb hB HS HV
        have HS := HSn
        clear HSn hown
        refine hK.out _ _ HS.out (fun _ => ?_)
        clear hK K
        (try simp only [Act.put, List.setIfInBounds_toArray])
        refine wpAnyH_ready (rs := [6, 10]) (by kernel_rfl) (by simp) ?_
        refine AllReadyH.cons (o := _) rfl (fun K hK => ?_) (AllReadyH.cons (o := _) rfl (fun K hK => ?_) AllReadyH.nil)
        · skip
          go_simp
          refine (KDX.out Y27 _ (Sl.of_own HA.out)).mono ?_
          rintro e Y28 ⟨lx, rfl, hox, gx⟩
          obtain ⟨la, lc, rfl⟩ := tx_len (Sl.of_own hox)
          have HSn := Lib.hid (HS.out.trans gx)
          have HC := Lib.hid (own_mono (base' := w3.heap.size) hox HS.out.size)
          have KYn := Lib.hid (KY.out.grew gx)
          clear KY
          have KY := KYn
          clear KYn
          clear hox gx HS HA
          have HS := HSn
          clear HSn
          go_simp
          refine hK.out _ _ HS.out (fun _ => ?_)
          clear hK K
          (try simp only [Act.put, List.setIfInBounds_toArray, List.set_cons_zero, List.set_cons_succ])
          refine wpAnyH_take (i := 7) (oi := ⟨some 61, _, _, _, _, _⟩) (v := .tuple #[.agg (msgA Dm (.slice la Dm.l.length lc)), .agg #[.int .i64 (De : Nat), .int .i64 Da]]) rfl (by kernel_rfl) (by kernel_rfl) (by kernel_rfl) (fun _ _ _ h => h) (Or.inl ⟨by rfl, ?_⟩) (by first | assumption | exact HS.out) ?_
          · intro V hV
            go_simp
            try rfl
          simp only [Act.put, List.setIfInBounds_toArray, List.set_cons_zero, List.set_cons_succ]
          refine wpAnyH_take (i := 8) (oi := ⟨some 69, _, _, _, _, _⟩) (v := .agg (msgA Dm (.slice la Dm.l.length lc))) rfl (by kernel_rfl) (by kernel_rfl) (by kernel_rfl) (fun _ _ _ h => h) (Or.inl ⟨by rfl, ?_⟩) (by first | assumption | exact HS.out) ?_
          · intro V hV
            go_simp
            try rfl
          simp only [Act.put, List.setIfInBounds_toArray, List.set_cons_zero, List.set_cons_succ]
          refine wpAnyH_take (i := 9) (oi := ⟨some 70, _, _, _, _, _⟩) (v := .agg #[.int .i64 (De : Nat), .int .i64 Da]) rfl (by kernel_rfl) (by kernel_rfl) (by kernel_rfl) (fun _ _ _ h => h) (Or.inl ⟨by rfl, ?_⟩) (by first | assumption | exact HS.out) ?_
          · intro V hV
            go_simp
            try rfl
          simp only [Act.put, List.setIfInBounds_toArray, List.set_cons_zero, List.set_cons_succ]
          refine wpAnyH_ready (rs := [10]) (by kernel_rfl) (by simp) ?_
          refine AllReadyH.cons (o := _) rfl (fun K hK => ?_) AllReadyH.nil
          · skip
            go_simp
            obtain ⟨Y29, hY29⟩ : ∃ V, V = Y28.alloc (.cells zMsg 29) := ⟨_, rfl⟩
            have gx : Grew Y28 Y29 := by rw [hY29]; exact grew_alloc _ _
            have KX := Lib.hid (show Blk Y29 Y28.heap.size 29 zMsg by rw [hY29]; exact Blk.new _ _ _)
            have HX := Lib.hid HS.out.size
            have HSn := Lib.hid (HS.out.trans gx)
            have HXY := Lib.hid (show Y28.heap.size ≠ Y0.heap.size by have h := KY.out.lt; omega)
            have KYn := Lib.hid (KY.out.grew gx)
            clear KY
            have KY := KYn
            clear KYn
            have HCn := Lib.hid (own_grew HC.out gx)
            clear HC
            have HC := HCn
            clear HCn
            clear HS gx
            have HS := HSn
            clear HSn
            simp only [zMsg] at hY29
            rw [← hY29]
            clear hY29
            refine hK.out _ _ HS.out (fun _ => ?_)
            clear hK K
            (try simp only [Act.put, List.setIfInBounds_toArray, List.set_cons_zero, List.set_cons_succ])
            refine wpAnyH_ready (rs := [12]) (by kernel_rfl) (by simp) ?_
            refine AllReadyH.cons (o := _) rfl (fun K hK => ?_) AllReadyH.nil
            refine wp_store_row 29 _ _ rfl Y28.heap.size (msgA Dm (.slice la Dm.l.length lc)) rfl rfl 29 _ KX.out (by kernel_rfl) rfl (msgA_one _ _ _ _) ?_
            obtain ⟨Wm, hWm⟩ : ∃ Wm, Wm = Y29.setRow Y28.heap.size (msgA Dm (.slice la Dm.l.length lc)) := ⟨_, rfl⟩
            have HSm := Lib.hid (show Grew w3 Wm by rw [hWm]; exact below_setRow HS.out HX.out _)
            have HCm := Lib.hid (show OwnT Wm w3.heap.size (.slice la Dm.l.length lc) Dm.l by rw [hWm]; exact own_block HC.out (fun g hg => setRow_other _ _ _ _ (fun e => blk_ne_row KX.out HC.out (by decide) (by subst e; exact hg.symm))))
            have KXm := Lib.hid (show Blk Wm Y28.heap.size 29 (msgA Dm (.slice la Dm.l.length lc)) by rw [hWm]; exact KX.out.row _)
            have KYm := Lib.hid (show Blk Wm Y0.heap.size 32 #[.int .i64 0, .int .i64 0] by rw [hWm]; exact KY.out.rowOther HXY.out.symm)
            rw [← hWm]
            clear hWm
            refine hK.out _ _ HSm.out (fun _ => ?_)
            clear hK K
            simp only [Act.put]
            refine wpAnyH_ready (rs := [13]) (by kernel_rfl) (by simp) ?_
            refine AllReadyH.cons (o := _) rfl (fun K hK => ?_) AllReadyH.nil
            refine wp_store_pair 32 _ _ rfl Y0.heap.size _ _ rfl rfl 32 _ KYm.out (by kernel_rfl) rfl rfl rfl ?_
            refine hK.out _ _ (below_setRow HSm.out HY.out _) (fun hl => ?_)
            clear hK K
            simp only [Act.put]
            refine wpAnyH_done (by kernel_rfl) ?_ _
            simp only [onlyN]
            exact ⟨((va, nc), (la, lc), Y28.heap.size, Y0.heap.size), rfl, KXm.out.rowOther HXY.out, KYm.out.row _, own_block HCm.out (fun g hg => setRow_other _ _ _ _ (fun e => blk_ne_row KYm.out HCm.out (by decide) (by subst e; exact hg.symm))), hl⟩
        · skip
          go_simp
          obtain ⟨Y30, hY30⟩ : ∃ V, V = Y27.alloc (.cells zMsg 29) := ⟨_, rfl⟩
          have gx : Grew Y27 Y30 := by rw [hY30]; exact grew_alloc _ _
          have KX := Lib.hid (show Blk Y30 Y27.heap.size 29 zMsg by rw [hY30]; exact Blk.new _ _ _)
          have HX := Lib.hid HS.out.size
          have HSn := Lib.hid (HS.out.trans gx)
          have HXY := Lib.hid (show Y27.heap.size ≠ Y0.heap.size by have h := KY.out.lt; omega)
          have KYn := Lib.hid (KY.out.grew gx)
          clear KY
          have KY := KYn
          clear KYn
          have HAn := Lib.hid (own_grew HA.out gx)
          clear HA
          have HA := HAn
          clear HAn
          clear HS gx
          have HS := HSn
          clear HSn
          simp only [zMsg] at hY30
          rw [← hY30]
          clear hY30
          refine hK.out _ _ HS.out (fun _ => ?_)
          clear hK K
          (try simp only [Act.put, List.setIfInBounds_toArray, List.set_cons_zero, List.set_cons_succ])
          refine wpAnyH_ready (rs := [6]) (by kernel_rfl) (by simp) ?_
          refine AllReadyH.cons (o := _) rfl (fun K hK => ?_) AllReadyH.nil
          · skip
            go_simp
            refine (KDX.out Y30 _ (Sl.of_own HA.out)).mono ?_
            rintro e Y31 ⟨lx, rfl, hox, gx⟩
            obtain ⟨la, lc, rfl⟩ := tx_len (Sl.of_own hox)
            have HSn := Lib.hid (HS.out.trans gx)
            have HC := Lib.hid (own_mono (base' := w3.heap.size) hox HS.out.size)
            have KXn := Lib.hid (KX.out.grew gx)
            clear KX
            have KX := KXn
            clear KXn
            have KYn := Lib.hid (KY.out.grew gx)
            clear KY
            have KY := KYn
            clear KYn
            clear hox gx HS HA
            have HS := HSn
            clear HSn
            go_simp
            refine hK.out _ _ HS.out (fun _ => ?_)
            clear hK K
            (try simp only [Act.put, List.setIfInBounds_toArray, List.set_cons_zero, List.set_cons_succ])
            refine wpAnyH_take (i := 7) (oi := ⟨some 61, _, _, _, _, _⟩) (v := .tuple #[.agg (msgA Dm (.slice la Dm.l.length lc)), .agg #[.int .i64 (De : Nat), .int .i64 Da]]) rfl (by kernel_rfl) (by kernel_rfl) (by kernel_rfl) (fun _ _ _ h => h) (Or.inl ⟨by rfl, ?_⟩) (by first | assumption | exact HS.out) ?_
            · intro V hV
              go_simp
              try rfl
            simp only [Act.put, List.setIfInBounds_toArray, List.set_cons_zero, List.set_cons_succ]
            refine wpAnyH_take (i := 8) (oi := ⟨some 69, _, _, _, _, _⟩) (v := .agg (msgA Dm (.slice la Dm.l.length lc))) rfl (by kernel_rfl) (by kernel_rfl) (by kernel_rfl) (fun _ _ _ h => h) (Or.inl ⟨by rfl, ?_⟩) (by first | assumption | exact HS.out) ?_
            · intro V hV
              go_simp
              try rfl
            simp only [Act.put, List.setIfInBounds_toArray, List.set_cons_zero, List.set_cons_succ]
            refine wpAnyH_take (i := 9) (oi := ⟨some 70, _, _, _, _, _⟩) (v := .agg #[.int .i64 (De : Nat), .int .i64 Da]) rfl (by kernel_rfl) (by kernel_rfl) (by kernel_rfl) (fun _ _ _ h => h) (Or.inl ⟨by rfl, ?_⟩) (by first | assumption | exact HS.out) ?_
            · intro V hV
              go_simp
              try rfl
            simp only [Act.put, List.setIfInBounds_toArray, List.set_cons_zero, List.set_cons_succ]
            refine wpAnyH_ready (rs := [12]) (by kernel_rfl) (by simp) ?_
            refine AllReadyH.cons (o := _) rfl (fun K hK => ?_) AllReadyH.nil
            refine wp_store_row 29 _ _ rfl Y27.heap.size (msgA Dm (.slice la Dm.l.length lc)) rfl rfl 29 _ KX.out (by kernel_rfl) rfl (msgA_one _ _ _ _) ?_
            obtain ⟨Wm, hWm⟩ : ∃ Wm, Wm = Y31.setRow Y27.heap.size (msgA Dm (.slice la Dm.l.length lc)) := ⟨_, rfl⟩
            have HSm := Lib.hid (show Grew w3 Wm by rw [hWm]; exact below_setRow HS.out HX.out _)
            have HCm := Lib.hid (show OwnT Wm w3.heap.size (.slice la Dm.l.length lc) Dm.l by rw [hWm]; exact own_block HC.out (fun g hg => setRow_other _ _ _ _ (fun e => blk_ne_row KX.out HC.out (by decide) (by subst e; exact hg.symm))))
            have KXm := Lib.hid (show Blk Wm Y27.heap.size 29 (msgA Dm (.slice la Dm.l.length lc)) by rw [hWm]; exact KX.out.row _)
            have KYm := Lib.hid (show Blk Wm Y0.heap.size 32 #[.int .i64 0, .int .i64 0] by rw [hWm]; exact KY.out.rowOther HXY.out.symm)
            rw [← hWm]
            clear hWm
            refine hK.out _ _ HSm.out (fun _ => ?_)
            clear hK K
            simp only [Act.put]
            refine wpAnyH_ready (rs := [13]) (by kernel_rfl) (by simp) ?_
            refine AllReadyH.cons (o := _) rfl (fun K hK => ?_) AllReadyH.nil
            refine wp_store_pair 32 _ _ rfl Y0.heap.size _ _ rfl rfl 32 _ KYm.out (by kernel_rfl) rfl rfl rfl ?_
            refine hK.out _ _ (below_setRow HSm.out HY.out _) (fun hl => ?_)
            clear hK K
            simp only [Act.put]
            refine wpAnyH_done (by kernel_rfl) ?_ _
            simp only [onlyN]
            exact ⟨((va, nc), (la, lc), Y27.heap.size, Y0.heap.size), rfl, KXm.out.rowOther HXY.out, KYm.out.row _, own_block HCm.out (fun g hg => setRow_other _ _ _ _ (fun e => blk_ne_row KYm.out HCm.out (by decide) (by subst e; exact hg.symm))), hl⟩
      · skip
        go_simp
        obtain ⟨Y32, hY32⟩ : ∃ V, V = Y26.alloc (.cells zMsg 29) := ⟨_, rfl⟩
        have gx : Grew Y26 Y32 := by rw [hY32]; exact grew_alloc _ _
        have KX := Lib.hid (show Blk Y32 Y26.heap.size 29 zMsg by rw [hY32]; exact Blk.new _ _ _)
        have HX := Lib.hid HS.out.size
        have HSn := Lib.hid (HS.out.trans gx)
        have HXY := Lib.hid (show Y26.heap.size ≠ Y0.heap.size by have h := KY.out.lt; omega)
        have KYn := Lib.hid (KY.out.grew gx)
        clear KY
        have KY := KYn
        clear KYn
        have HVn := Lib.hid (HV.out.trans gx)
        clear HV
        have HV := HVn
        clear HVn
        clear HS gx
        have HS := HSn
        clear HSn
        simp only [zMsg] at hY32
        rw [← hY32]
        clear hY32
        refine hK.out _ _ HS.out (fun _ => ?_)
        clear hK K
        (try simp only [Act.put, List.setIfInBounds_toArray, List.set_cons_zero, List.set_cons_succ])
        refine wpAnyH_ready (rs := [5]) (by kernel_rfl) (by simp) ?_
        refine AllReadyH.cons (o := _) rfl (fun K hK => ?_) AllReadyH.nil
        · skip
          refine step_of_list ?_
          refine wpList_push2 rfl _ _ rfl w3.heap.size (.slice a4 B.length c4') B rfl (own_grew HO4.out (M5.out.trans HV.out)) (.slice a5 B'.length c5') rfl B' (Sl.of_own (own_grew HO5.out HV.out)) (by have := HLN.out; omega) (by have := HS.out.size; omega) ?_
          intro vx Y33 hown hB hgb _
          rw [← HXE.out] at hown
          obtain ⟨va, nc, rfl⟩ := bs_len (Sl.of_own hown)
          have HSn := Lib.hid (show Grew w3 Y33 from Below.trans HS.out hB)
          have HA := Lib.hid hown
          have KXn := Lib.hid (KX.out.kept hgb (blk_ne_row KX.out (own_grew HO4.out (M5.out.trans HV.out)) (by decide)))
          clear KX
          have KX := KXn
          clear KXn
          have KYn := Lib.hid (KY.out.kept hgb (blk_ne_row KY.out (own_grew HO4.out (M5.out.trans HV.out)) (by decide)))
          clear KY
          have KY := KYn
          clear KYn
          clear hgb hB HS HV
          have HS := HSn
          clear HSn hown
          refine hK.out _ _ HS.out (fun _ => ?_)
          clear hK K
          (try simp only [Act.put, List.setIfInBounds_toArray])
          refine wpAnyH_ready (rs := [6]) (by kernel_rfl) (by simp) ?_
          refine AllReadyH.cons (o := _) rfl (fun K hK => ?_) AllReadyH.nil
          · skip
            go_simp
            refine (KDX.out Y33 _ (Sl.of_own HA.out)).mono ?_
            rintro e Y34 ⟨lx, rfl, hox, gx⟩
            obtain ⟨la, lc, rfl⟩ := tx_len (Sl.of_own hox)
            have HSn := Lib.hid (HS.out.trans gx)
            have HC := Lib.hid (own_mono (base' := w3.heap.size) hox HS.out.size)
            have KXn := Lib.hid (KX.out.grew gx)
            clear KX
            have KX := KXn
            clear KXn
            have KYn := Lib.hid (KY.out.grew gx)
            clear KY
            have KY := KYn
            clear KYn
            clear hox gx HS HA
            have HS := HSn
            clear HSn
            go_simp
            refine hK.out _ _ HS.out (fun _ => ?_)
            clear hK K
            (try simp only [Act.put, List.setIfInBounds_toArray, List.set_cons_zero, List.set_cons_succ])
            refine wpAnyH_take (i := 7) (oi := ⟨some 61, _, _, _, _, _⟩) (v := .tuple #[.agg (msgA Dm (.slice la Dm.l.length lc)), .agg #[.int .i64 (De : Nat), .int .i64 Da]]) rfl (by kernel_rfl) (by kernel_rfl) (by kernel_rfl) (fun _ _ _ h => h) (Or.inl ⟨by rfl, ?_⟩) (by first | assumption | exact HS.out) ?_
            · intro V hV
              go_simp
              try rfl
            simp only [Act.put, List.setIfInBounds_toArray, List.set_cons_zero, List.set_cons_succ]
            refine wpAnyH_take (i := 8) (oi := ⟨some 69, _, _, _, _, _⟩) (v := .agg (msgA Dm (.slice la Dm.l.length lc))) rfl (by kernel_rfl) (by kernel_rfl) (by kernel_rfl) (fun _ _ _ h => h) (Or.inl ⟨by rfl, ?_⟩) (by first | assumption | exact HS.out) ?_
            · intro V hV
              go_simp
              try rfl
            simp only [Act.put, List.setIfInBounds_toArray, List.set_cons_zero, List.set_cons_succ]
            refine wpAnyH_take (i := 9) (oi := ⟨some 70, _, _, _, _, _⟩) (v := .agg #[.int .i64 (De : Nat), .int .i64 Da]) rfl (by kernel_rfl) (by kernel_rfl) (by kernel_rfl) (fun _ _ _ h => h) (Or.inl ⟨by rfl, ?_⟩) (by first | assumption | exact HS.out) ?_
            · intro V hV
              go_simp
              try rfl
            simp only [Act.put, List.setIfInBounds_toArray, List.set_cons_zero, List.set_cons_succ]
            refine wpAnyH_ready (rs := [12]) (by kernel_rfl) (by simp) ?_
            refine AllReadyH.cons (o := _) rfl (fun K hK => ?_) AllReadyH.nil
            refine wp_store_row 29 _ _ rfl Y26.heap.size (msgA Dm (.slice la Dm.l.length lc)) rfl rfl 29 _ KX.out (by kernel_rfl) rfl (msgA_one _ _ _ _) ?_
            obtain ⟨Wm, hWm⟩ : ∃ Wm, Wm = Y34.setRow Y26.heap.size (msgA Dm (.slice la Dm.l.length lc)) := ⟨_, rfl⟩
            have HSm := Lib.hid (show Grew w3 Wm by rw [hWm]; exact below_setRow HS.out HX.out _)
            have HCm := Lib.hid (show OwnT Wm w3.heap.size (.slice la Dm.l.length lc) Dm.l by rw [hWm]; exact own_block HC.out (fun g hg => setRow_other _ _ _ _ (fun e => blk_ne_row KX.out HC.out (by decide) (by subst e; exact hg.symm))))
            have KXm := Lib.hid (show Blk Wm Y26.heap.size 29 (msgA Dm (.slice la Dm.l.length lc)) by rw [hWm]; exact KX.out.row _)
            have KYm := Lib.hid (show Blk Wm Y0.heap.size 32 #[.int .i64 0, .int .i64 0] by rw [hWm]; exact KY.out.rowOther HXY.out.symm)
            rw [← hWm]
            clear hWm
            refine hK.out _ _ HSm.out (fun _ => ?_)
            clear hK K
            simp only [Act.put]
            refine wpAnyH_ready (rs := [13]) (by kernel_rfl) (by simp) ?_
            refine AllReadyH.cons (o := _) rfl (fun K hK => ?_) AllReadyH.nil
            refine wp_store_pair 32 _ _ rfl Y0.heap.size _ _ rfl rfl 32 _ KYm.out (by kernel_rfl) rfl rfl rfl ?_
            refine hK.out _ _ (below_setRow HSm.out HY.out _) (fun hl => ?_)
            clear hK K
            simp only [Act.put]
            refine wpAnyH_done (by kernel_rfl) ?_ _
            simp only [onlyN]
            exact ⟨((va, nc), (la, lc), Y26.heap.size, Y0.heap.size), rfl, KXm.out.rowOther HXY.out, KYm.out.row _, own_block HCm.out (fun g hg => setRow_other _ _ _ _ (fun e => blk_ne_row KYm.out HCm.out (by decide) (by subst e; exact hg.symm))), hl⟩
  rintro ⟨⟨va, nc⟩, ⟨la, lc⟩, b11, b12⟩ W9 ⟨k11, k12, ho9, g9⟩
  simp only [List.setIfInBounds_toArray, List.set_cons_zero, List.set_cons_succ]
  have hml : m.l.length ≤ 1000 := HE.out.2.2.1
  have hnl : n.l.length ≤ 1000 := HE2.out.2.2.1
  have hw2 : wrap64 ((m.l.length : Int) + (n.l.length : Int)) = ((m.l.length + n.l.length : Nat) : Int) := by unfold wrap64; omega
  obtain ⟨hz1, hz2⟩ := HZ.out
  have G9 := Lib.hid (G3.out.trans g9)
  have D9 := Lib.hid (D3.out.trans g9)
  have K11 := Lib.hid k11
  have K12 := Lib.hid k12
  have T9 := Lib.hid (Sl.of_own ho9)
  have HML := Lib.hid hml
  have HNL := Lib.hid hnl
  clear k11 k12 ho9 HZ x0 x1 y0 y1 c0 c1 c2 c3 c4 c5 c6 c7 c8 c9 hml hnl
  obtain ⟨c0, c1, c2, c3, c4, c5, c6, c7, c8, c9⟩ := mcells (K0.out.grew D9.out)
  obtain ⟨d0, d1, d2, d3, d4, d5, d6, d7, d8, d9⟩ := mcells (K1.out.grew D9.out)
  obtain ⟨y0, y1, -, -⟩ := cells_of K12.out
  by_cases hs : 64 < m.l.length + n.l.length
  · have q64 : decide (((m.l.length + n.l.length : Nat) : Int) > 64) = true := decide_eq_true (by omega)
    have hD2 : De = 2 := hz1 hs
    have qd : ((De : Int) == 2) = true := by rw [hD2]; rfl
    clear hz1 hz2 hD2
    go_wp2
    all_goals first
      | (exfalso; omega)
      | (go_ret; exact ⟨rfl, G9.out⟩)
  have q64 : decide (((m.l.length + n.l.length : Nat) : Int) > 64) = false := decide_eq_false (by omega)
  have hq : ¬ (64 : Int) < (m.l.length : Int) + (n.l.length : Int) := by omega
  obtain ⟨hD0, hDn, hDs, hDl⟩ := hz2 (by omega)
  have hD0 : De = 0 := hD0
  have hDl : Dm.l = m.l ++ n.l := hDl
  have qd : ((De : Int) != 0) = false := by rw [hD0]; rfl
  have hll : Dm.l.length = m.l.length + n.l.length := by rw [hDl, List.length_append]
  have qll : ((Dm.l.length : Int) != ((m.l.length + n.l.length : Nat) : Int)) = false := by rw [hll]; simp
  have HN6 := Lib.hid (show ∀ i, i < 6 → Dm.n i = if n.n i ≠ 0 then n.n i else m.n i from hDn)
  have HS2 := Lib.hid (show ∀ i, i < 2 → Dm.s i = if n.s i ≠ ⟨#[]⟩ then n.s i else m.s i from hDs)
  have HDL := Lib.hid hDl
  have HLL := Lib.hid hll
  obtain ⟨u0, u1, u2, u3, u4, u5, u6, u7, u8, u9⟩ := mcells K11.out
  clear hz1 hz2 hs hD0 hDn hDs hDl hll
  go_wp2_with fail
  go_loopw [13] (fun ix wr => ∃ j : Nat, j ≤ 6 ∧ ix = .int .i64 j ∧ Drew W9 wr) (fun ix _ => 6 - (intOf ix).toNat)
  case atStart => exact ⟨0, Nat.zero_le _, rfl, Drew.refl _⟩
  case round =>
    obtain ⟨j, hj, rfl, hd⟩ := hrel
    by_cases hlt : j < 6
    · have hw9 := hd.grew
      have f1 : wr.cell? ⟨b11, 1 + j, none⟩ = some (.int .u64 (Dm.n j : Nat)) := by rw [(K11.out.grew hw9).cell]; exact msgA_n _ _ hlt
      have f2 : wr.cell? ⟨w.heap.size + 1, 1 + j, none⟩ = some (.int .u64 (n.n j : Nat)) := by rw [((K1.out.grew D9.out).grew hw9).cell]; exact msgA_n _ _ hlt
      have f3 : wr.cell? ⟨w.heap.size, 1 + j, none⟩ = some (.int .u64 (m.n j : Nat)) := by rw [((K0.out.grew D9.out).grew hw9).cell]; exact msgA_n _ _ hlt
      have hv := HN6.out j hlt
      have z0 : (0 : Int) ≤ (j : Int) := by omega
      have z1 : (j : Int) < 6 := by omega
      clear hw9
      by_cases e1 : Dm.n j = n.n j
      · have q1 : ((Dm.n j : Int) != (n.n j : Int)) = false := by rw [e1]; simp
        clear e1 hv
        go_wp2
        go_quiet (fail)
        go_wp2
        go_roundw
        case rel => exact ⟨j + 1, by omega, by go_num, hd.more _⟩
        case measure => simp [intOf]; omega
      · have hn0 : n.n j = 0 := by
          by_cases h : n.n j = 0
          · exact h
          · rw [if_pos h] at hv; exact absurd hv e1
        rw [if_neg (by omega)] at hv
        have q1 : ((Dm.n j : Int) != (n.n j : Int)) = true := by simp; omega
        have q2 : ((n.n j : Int) != 0) = false := by rw [hn0]; rfl
        have q3 : ((Dm.n j : Int) != (m.n j : Int)) = false := by rw [hv]; simp
        clear e1 hv hn0
        go_wp2
        go_quiet (fail)
        go_wp2
        go_roundw
        case rel => exact ⟨j + 1, by omega, by go_num, hd.more _⟩
        case measure => simp [intOf]; omega
    · have z9 : ¬ (j : Int) < 6 := by omega
      have G10 := Lib.hid (G9.out.trans hd.grew)
      have K13 := Lib.hid (K11.out.grew hd.grew)
      have K14 := Lib.hid (K1.out.grew (D9.out.trans hd.grew))
      have K15 := Lib.hid (K0.out.grew (D9.out.trans hd.grew))
      have T13 := Lib.hid (T9.out.grew hd.grew)
      generalize wr = W10 at G10 K13 K14 K15 T13 ⊢
      clear hd HN6
      go_wp2_with fail
      go_loopw [14] (fun ix wr => ∃ j2 : Nat, j2 ≤ 2 ∧ ix = .int .i64 j2 ∧ Drew W10 wr) (fun ix _ => 2 - (intOf ix).toNat)
      case atStart => exact ⟨0, Nat.zero_le _, rfl, Drew.refl _⟩
      case round =>
        obtain ⟨j2, hj, rfl, hd⟩ := hrel
        by_cases hlt : j2 < 2
        · have hw9 := hd.grew
          have f1 : wr.cell? ⟨b11, 7 + j2, none⟩ = some (.string (Dm.s j2)) := by rw [(K13.out.grew hw9).cell]; exact msgA_s _ _ hlt
          have f2 : wr.cell? ⟨w.heap.size + 1, 7 + j2, none⟩ = some (.string (n.s j2)) := by rw [(K14.out.grew hw9).cell]; exact msgA_s _ _ hlt
          have f3 : wr.cell? ⟨w.heap.size, 7 + j2, none⟩ = some (.string (m.s j2)) := by rw [(K15.out.grew hw9).cell]; exact msgA_s _ _ hlt
          have hv := HS2.out j2 hlt
          have z0 : (0 : Int) ≤ (j2 : Int) := by omega
          have z1 : (j2 : Int) < 2 := by omega
          clear hw9
          by_cases e1 : Dm.s j2 = n.s j2
          · have q1 : (Dm.s j2 != n.s j2) = false := by rw [e1]; simp
            clear hv
            go_wp2
            go_quiet (fail)
            go_wp2
            go_roundw
            case rel => exact ⟨j2 + 1, by omega, by go_num, hd.more _⟩
            case measure => simp [intOf]; omega
          · have hn0 : n.s j2 = ⟨#[]⟩ := by
              by_cases h : n.s j2 = ⟨#[]⟩
              · exact h
              · rw [if_pos h] at hv; exact absurd hv e1
            rw [if_neg (by simpa using hn0)] at hv
            rw [hv, hn0] at e1
            rw [hn0] at f2
            rw [hv] at f1
            have q1 : (m.s j2 != ⟨#[]⟩) = true := by simpa using e1
            have q1b : ¬ (m.s j2).toList = [] := fun h => e1 (by rw [ByteArray.toList_eq] at h; exact ByteArray.ext (by simpa using h))
            clear hv hn0 e1
            go_wp2
            go_quiet (fail)
            go_wp2
            go_roundw
            case rel => exact ⟨j2 + 1, by omega, by go_num, hd.more _⟩
            case measure => simp [intOf]; omega
        · have z8 : ¬ (j2 : Int) < 2 := by omega
          have G11 := Lib.hid (G10.out.trans hd.grew)
          have K23 := Lib.hid (K13.out.grew hd.grew)
          have K24 := Lib.hid (K14.out.grew hd.grew)
          have K25 := Lib.hid (K15.out.grew hd.grew)
          have T23 := Lib.hid (T13.out.grew hd.grew)
          have T24 := Lib.hid (HL2.out.grew G11.out)
          have T25 := Lib.hid (HL.out.grew G11.out)
          generalize wr = W11 at G11 K23 K24 K25 T23 T24 T25 ⊢
          clear hd HS2
          go_wp2_with fail
          go_loopw [15] (fun ix wr => ∃ j3 : Nat, j3 ≤ Dm.l.length ∧ ix = .int .i64 j3 ∧ Drew W11 wr) (fun ix _ => Dm.l.length - (intOf ix).toNat)
          case atStart => exact ⟨0, Nat.zero_le _, rfl, Drew.refl _⟩
          case round =>
            obtain ⟨j3, hj, rfl, hd⟩ := hrel
            have s1 : wr.cell? ⟨b11, 9, none⟩ = some (.slice la Dm.l.length lc) := by rw [(K23.out.grew hd.grew).cell]; rfl
            have s2 : wr.cell? ⟨w.heap.size + 1, 9, none⟩ = some (.slice b n.l.length d) := by rw [(K24.out.grew hd.grew).cell]; rfl
            have s3 : wr.cell? ⟨w.heap.size, 9, none⟩ = some (.slice a m.l.length c) := by rw [(K25.out.grew hd.grew).cell]; rfl
            have hll := HLL.out
            have hml := HML.out
            have hnl := HNL.out
            by_cases hlt : j3 < Dm.l.length
            · have z0 : (0 : Int) ≤ (j3 : Int) := by omega
              have z1 : (j3 : Int) < (Dm.l.length : Int) := by omega
              obtain ⟨bd, od, rfl, hcd⟩ := tx_at (T23.out.grew hd.grew) (by omega)
              by_cases hjm : j3 < m.l.length
              · obtain ⟨ba, oa, rfl, hca⟩ := tx_at (T25.out.grew hd.grew) (by omega)
                obtain ⟨x, hx⟩ : ∃ x, x = m.l[j3] := ⟨_, rfl⟩
                have e3 : m.l[j3]? = some x := by rw [List.getElem?_eq_getElem hjm, hx]
                have e1 : Dm.l[j3]? = some x := by rw [HDL.out, List.getElem?_append_left hjm, e3]
                have g1 := hcd j3 x e1
                have g3 := hca j3 x e3
                have z2 : (j3 : Int) < (m.l.length : Int) := by omega
                have z6a : decide ((m.l.length : Int) ≤ (j3 : Int)) = false := decide_eq_false (by omega)
                have z6b : decide (m.l.length ≤ j3) = false := decide_eq_false (by omega)
                have z6c : ¬ (m.l.length : Int) ≤ (j3 : Int) := by omega
                have z6d : ¬ m.l.length ≤ j3 := by omega
                clear hcd hca hx e1 e3
                go_wp2
                refine wp_region_quiet_lit (by kernel_rfl) (by kernel_rfl) ?_
                repeat (first | go_big_quiet_step (fail) | quiet_step (fail))
                refine wpQuiet_nil ?_
                rintro _ ⟨nq, rfl⟩
                go_wp2
                go_roundw
                case rel => exact ⟨j3 + 1, by omega, by go_num, hd.more _⟩
                case measure => simp [intOf]; omega
              · obtain ⟨bb, ob, rfl, hcb⟩ := tx_at (T24.out.grew hd.grew) (by omega)
                obtain ⟨i, hi⟩ : ∃ i, j3 = m.l.length + i := ⟨j3 - m.l.length, by omega⟩
                have hil : i < n.l.length := by omega
                obtain ⟨x, hx⟩ : ∃ x, x = n.l[i] := ⟨_, rfl⟩
                have e2 : n.l[i]? = some x := by rw [List.getElem?_eq_getElem hil, hx]
                have e1 : Dm.l[j3]? = some x := by rw [HDL.out, List.getElem?_append_right (by omega), show j3 - m.l.length = i by omega, e2]
                have g1 := hcd j3 x e1
                have g2 := hcb i x e2
                rw [show i = j3 - m.l.length by omega] at g2
                have z2 : ¬ (j3 : Int) < (m.l.length : Int) := by omega
                have z6b : decide (m.l.length ≤ j3) = true := decide_eq_true (by omega)
                have z3 : (m.l.length : Int) ≤ (j3 : Int) := by omega
                have hws : wrap64 ((j3 : Int) - (m.l.length : Int)) = (i : Int) := by unfold wrap64; omega
                have z4 : (0 : Int) ≤ (i : Int) := by omega
                have z5 : (i : Int) < (n.l.length : Int) := by omega
                clear hcd hcb hx e1 e2 hi hil
                go_wp2
                refine wp_region_quiet_lit (by kernel_rfl) (by kernel_rfl) ?_
                repeat (first | go_big_quiet_step (fail) | quiet_step (fail))
                refine wpQuiet_nil ?_
                rintro _ ⟨nq, rfl⟩
                go_wp2
                go_roundw
                case rel => exact ⟨j3 + 1, by omega, by go_num, hd.more _⟩
                case measure => simp [intOf]; omega
            · obtain rfl : j3 = Dm.l.length := by omega
              go_wp2
              go_ret
              exact ⟨rfl, G11.out.trans hd.grew⟩
end Go.Proofs.Ytbjoohafgkodcaa
