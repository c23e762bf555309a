/- The law StreamFrames returns true: its walk. -/
import Derived.Test.YtoinndlialimcaaOps
import Derived.Test.YtoinndlialimcaaSt1
namespace Go.Proofs.Ytoinndlialimcaa
open Go Go.RowKit Go.Shelf

/-- the first frame that is too long among the first k, or -1 -/
def longI (fs : List Frm) (k : Nat) : Int := match longAt (fs.take k) with
  | some i => (i : Nat)
  | none => -1
theorem longAt_snoc (fs : List Frm) (f : Frm) : longAt (fs ++ [f]) = (longAt fs).or (if 8192 < f.2.length then some fs.length else none) := by
  unfold longAt
  rw [List.findIdx?_append]
  congr 1
  by_cases h : 8192 < f.2.length
  · simp [h]
  · simp [h]
theorem longI_step {fs : List Frm} {k : Nat} (hk : k < fs.length) : longI fs (k + 1) = if longI fs k < 0 ∧ 8192 < (fs[k]).2.length then (k : Int) else longI fs k := by
  unfold longI
  rw [List.take_succ_eq_append_getElem hk, longAt_snoc]
  have hl : (fs.take k).length = k := by rw [List.length_take]; omega
  rw [hl]
  cases h : longAt (fs.take k) with
  | some i => simp; omega
  | none =>
    by_cases h2 : 8192 < (fs[k]).2.length
    · simp [h2]
    · simp [h2]
theorem framesM_of {fs : List Frm} : framesM fs = if longI fs fs.length < 0 then (fjoin fs, 0, 0) else ([], 2, (longI fs fs.length).toNat) := by
  unfold framesM longI
  rw [List.take_length]
  cases longAt fs with
  | some i => simp
  | none => simp
theorem longI_none {fs : List Frm} (h : longI fs fs.length < 0) : ∀ f ∈ fs, f.2.length ≤ 8192 := by
  unfold longI at h
  rw [List.take_length] at h
  intro f hf
  cases e : longAt fs with
  | some i => rw [e] at h; simp at h; omega
  | none =>
    unfold longAt at e
    rw [List.findIdx?_eq_none_iff] at e
    have := e f hf
    simpa using this
set_option maxHeartbeats 1000000 in
theorem r14join8_any (A : List FA) (v : Value) (w : World) (h : FsR w v A) (hall : ∀ f ∈ A.map (·.1), f.2.length ≤ 8192) (hln : A.length ≤ 12) :
    Calls Try.prog 18 #[v] w fun e w' => ∃ v', e = .returned v' ∧ OwnB w' w.heap.size v' (fjoin (A.map (·.1))) ∧ Grew w w' := by
  obtain ⟨a, n, c, rfl, hn, h1, h2⟩ := h.open
  subst hn
  have HA := Lib.hid h
  have HALL := Lib.hid hall
  clear h hall
  go_enter Try.func18, Try.ntmps18
  go_wp2
  go_loopw [3, 4] (fun vo i wr => ∃ k : Nat, k ≤ A.length ∧ i = .int .i64 k ∧ OwnB wr w.heap.size vo (fjoin ((A.map (·.1)).take k)) ∧ Grew w wr) (fun _ i _ => A.length - (intOf i).toNat)
  case atStart => exact ⟨0, Nat.zero_le _, rfl, by simpa [fjoin] using ownB_nil _ _, Below.refl _ _⟩
  case round =>
    obtain ⟨k, hk, rfl, hown, hG⟩ := hrel
    by_cases hlt : k < A.length
    · obtain ⟨b, o, rfl, hcl⟩ := (HA.out.grew hG).cells (by omega)
      obtain ⟨x0, x1, x2⟩ := hcl k hlt
      have hlk : k < (A.map (·.1)).length := by rw [List.length_map]; exact hlt
      have hs : (A.map (·.1)).take (k + 1) = (A.map (·.1)).take k ++ [A[k].1] := by rw [List.take_succ_eq_append_getElem hlk]; simp
      have hle := HALL.out A[k].1 (List.mem_map.2 ⟨_, List.getElem_mem hlt, rfl⟩)
      have hjl := fjoin_most ((A.map (·.1)).take k) (fun f hf => HALL.out f (List.mem_of_mem_take hf))
      have hjl2 : (fjoin ((A.map (·.1)).take k)).length ≤ 100000 := by
        have : ((A.map (·.1)).take k).length ≤ 12 := by rw [List.length_take, List.length_map]; omega
        omega
      generalize A[k].1 = f at x0 x2 hs hle
      obtain ⟨ua, un, uc, e, -⟩ := bs_shape x2
      rw [e] at x1 x2
      obtain ⟨oa, on, oc, rfl, -⟩ := bs_shape (Sl.of_own hown)
      have HS := Lib.hid hs
      have HO := Lib.hid hown
      have X2 := Lib.hid x2
      have hfl : (fput f).length ≤ 8201 := by rw [fput_length]; omega
      clear hcl hs e x2 hown hjl hlk
      go_wp2_with fail
      refine (r13put_any f _ _ X2.out (by omega)).mono ?_
      rintro e w1 ⟨v1, rfl, r1, g1⟩
      have s1 := Sl.of_own r1
      obtain ⟨a1, n1, c1, rfl, -⟩ := bs_shape s1
      clear r1 x0 x1
      go_wp2_with fail
      refine (join_any _ (fput f) _ _ _ (Sl.of_own (own_grew HO.out g1)) s1 (by omega)).mono ?_
      rintro e w2 ⟨v2, rfl, r2, g2⟩
      go_wp2
      have G2 := (hG.trans g1).trans g2
      go_roundw
      case rel => exact ⟨k + 1, by omega, by go_num, by rw [HS.out, fjoin_snoc]; exact own_mono r2 (hG.trans g1).size, G2⟩
      case measure => simp [intOf]; omega
    · obtain rfl : k = A.length := by omega
      rw [List.take_of_length_le (by simp)] at hown
      go_wp2
      go_ret
      exact ⟨_, rfl, hown, hG⟩
set_option maxRecDepth 100000 in
set_option maxHeartbeats 8000000 in
theorem sframes_walk (A : List FA) (ord : List Int) (v u : Value) (w : World) (h : FsR w v A) (ho : Sl w u ord.length 1 (iiv ord)) (hb : ∀ z ∈ ord, -9223372036854775808 ≤ z ∧ z ≤ 9223372036854775807) :
    Calls Try.prog 5 #[v, u] w fun e w' => e = .returned (.bool true) ∧ Grew w w' := by
  obtain ⟨a, n, c, rfl, hn, h1, h2⟩ := h.open
  subst hn
  obtain ⟨ua, uc, rfl, u1, u2, -, u4⟩ := ho.open
  unfold maxLen at u2
  by_cases hl : 12 < A.length
  · clear h ho u4
    go_enter Try.func5, Try.ntmps5
    go_wp2_with fail
    refine (live16_any _).mono ?_
    rintro e w1 ⟨rfl, g1⟩
    go_wp2
    go_ret
    exact ⟨rfl, g1⟩
  have hl' : A.length ≤ 12 := by omega
  by_cases hq : 40 < ord.length
  · clear h ho u4 hl
    go_enter Try.func5, Try.ntmps5
    go_wp2_with fail
    refine (live16_any _).mono ?_
    rintro e w1 ⟨rfl, g1⟩
    go_wp2
    go_ret
    exact ⟨rfl, g1⟩
  have hq' : ord.length ≤ 40 := by omega
  have HA := Lib.hid h
  have HO := Lib.hid ho
  have HB := Lib.hid hb
  have HU := Lib.hid u4
  clear hl hq h ho hb u4
  go_enter Try.func5, Try.ntmps5
  go_wp2_with fail
  refine (live16_any _).mono ?_
  rintro e w1 ⟨rfl, g1⟩
  go_wp2_with fail
  go_loop [5, 6] (fun vl i => ∃ k : Nat, k ≤ A.length ∧ i = .int .i64 k ∧ vl = .int .i64 (longI (A.map (·.1)) k) ∧ RowKit.Hid (∀ j (hj : j < A.length), j < k → A[j].1.2.length ≤ 9000)) (fun _ i => A.length - (intOf i).toNat)
  case atStart => exact ⟨0, Nat.zero_le _, rfl, rfl, Lib.hid fun j _ hj => absurd hj (Nat.not_lt_zero j)⟩
  case round =>
    obtain ⟨k, hk, rfl, rfl, hall⟩ := hrel
    by_cases hlt : k < A.length
    · obtain ⟨b, o, rfl, hcl⟩ := (HA.out.grew g1).cells (by omega)
      obtain ⟨x0, x1, x2⟩ := hcl k hlt
      have hlk : k < (A.map (·.1)).length := by rw [List.length_map]; exact hlt
      have hst := longI_step hlk
      rw [show (A.map (·.1))[k] = A[k].1 by simp] at hst
      obtain ⟨xa, xc, e⟩ := bs_len x2
      rw [e] at x1
      have z0 : (0 : Int) ≤ (k : Int) := by omega
      have z1 : (k : Int) < (A.length : Int) := by omega
      by_cases h9 : 9000 < A[k].1.2.length
      · generalize A[k].1.2.length = m at x1 h9
        clear hcl x0 x2 e hst
        go_wp2
        go_ret
        exact ⟨rfl, g1⟩
      · have hall2 : RowKit.Hid (∀ j (hj : j < A.length), j < k + 1 → A[j].1.2.length ≤ 9000) := by
          refine Lib.hid fun j hj hjk => ?_
          by_cases hjk2 : j < k
          · exact hall.out j hj hjk2
          · obtain rfl : j = k := by omega
            omega
        generalize A[k].1.2.length = m at x1 h9 hst
        obtain ⟨L, hL⟩ : ∃ L, L = longI (A.map (·.1)) k := ⟨_, rfl⟩
        rw [← hL] at hst ⊢
        clear hcl x0 x2 e hL hall
        have h9' : (m : Int) ≤ 9000 := by omega
        by_cases c1 : L < 0
        · by_cases c2 : 8192 < m
          · rw [if_pos ⟨c1, c2⟩] at hst
            have HST := Lib.hid hst
            clear hst h9
            go_wp2
            go_round
            case rel => exact ⟨k + 1, by omega, by go_num, by rw [HST.out], hall2⟩
            case measure => simp [intOf]; omega
          · rw [if_neg (fun h => c2 h.2)] at hst
            have HST := Lib.hid hst
            clear hst h9
            go_wp2
            go_round
            case rel => exact ⟨k + 1, by omega, by go_num, by rw [HST.out], hall2⟩
            case measure => simp [intOf]; omega
        · rw [if_neg (fun h => c1 h.1)] at hst
          have HST := Lib.hid hst
          clear hst h9
          go_wp2
          go_round
          case rel => exact ⟨k + 1, by omega, by go_num, by rw [HST.out], hall2⟩
          case measure => simp [intOf]; omega
    · obtain rfl : k = A.length := by omega
      have hM := framesM_of (fs := A.map (·.1))
      rw [List.length_map] at hM
      obtain ⟨L, hL⟩ : ∃ L, L = longI (A.map (·.1)) A.length := ⟨_, rfl⟩
      rw [← hL] at hM ⊢
      have HM := Lib.hid hM
      have HL := Lib.hid hL
      have HALL := Lib.hid hall.out
      clear hM hL hall
      by_cases c1 : L < 0
      · have kf := sframes_any A _ w1 (HA.out.grew g1) (by omega)
        rw [HM.out, if_pos c1] at kf
        have hle := longI_none (fs := A.map (·.1)) (by rw [List.length_map, ← HL.out]; exact c1)
        have HLE := Lib.hid hle
        have KF := Lib.hid kf
        have c2 : ¬ (0 : Int) ≤ L := by omega
        clear kf hle
        go_wp2_with fail
        refine KF.out.mono ?_
        rintro e w2 ⟨v2, rfl, o2, g2⟩
        obtain ⟨a2, c2', rfl⟩ := bs_len (Sl.of_own o2)
        have O2 := Lib.hid (Sl.of_own o2)
        obtain ⟨w3, hw3⟩ : ∃ w3, w3 = w2.alloc (.cells #[.int .i64 0, .int .i64 0] 41) := ⟨_, rfl⟩
        have gB : Grew w2 w3 := by rw [hw3]; exact grew_alloc _ _
        have kF : Blk w3 w2.heap.size 41 #[.int .i64 0, .int .i64 0] := by rw [hw3]; exact Blk.new _ _ _
        have G3 := (g1.trans g2).trans gB
        have KK := Lib.hid kF
        clear o2 kF
        go_upto_region 14 with (fail)
        rw [← hw3]
        clear hw3
        go_wp2_with fail
        refine (sswap_any A ord _ _ _ (HA.out.grew G3) (HO.out.grew G3) HB.out (by omega) (by omega) (fun x hx => by have := HLE.out x.1 (List.mem_map.2 ⟨x, hx, rfl⟩); omega)).mono ?_
        rintro e w4 ⟨v4, rfl, ⟨B, b1, b2⟩, g4⟩
        obtain ⟨oa, on, oc, rfl, en, o1, o2⟩ := b1.fsr.open
        have BB := Lib.hid b1.fsr
        have B2 := Lib.hid b2
        have EN := Lib.hid en
        have G4 := G3.trans g4
        clear b1 b2 en
        go_wp2_with fail
        refine (r14join8_any A _ _ (HA.out.grew G4) HLE.out hl').mono ?_
        rintro e w5 ⟨v5, rfl, o5, g5⟩
        obtain ⟨a5, c5, rfl⟩ := bs_len (Sl.of_own o5)
        have O5 := Lib.hid (Sl.of_own o5)
        clear o5
        go_wp2_with fail
        refine (same_any (fjoin (A.map (·.1))) (fjoin (A.map (·.1))) _ _ _ (O2.out.grew ((gB.trans g4).trans g5)) O5.out).mono ?_
        rintro e w6 ⟨rfl, d6⟩
        rw [show (fjoin (A.map (·.1)) == fjoin (A.map (·.1))) = true by simp]
        have gC := (g4.trans g5).trans d6.grew
        have kF6 := KK.out.grew gC
        have f0 : w6.cell? ⟨w2.heap.size, 0, none⟩ = some (.int .i64 0) := kF6.cell 0
        have f1 : w6.cell? ⟨w2.heap.size, 1, none⟩ = some (.int .i64 0) := kF6.cell 1
        have G6 := G3.trans gC
        clear kF6
        by_cases hA0 : A.length = 0
        · have hon : on = 0 := by
            have h1 := congrArg List.length B2.out
            have h2 : A = [] := List.eq_nil_of_length_eq_zero hA0
            rw [List.length_map, ← EN.out, h2] at h1
            simpa [swapM] using h1
          subst hon
          go_wp2_with fail
          go_loopw [10] (fun i wr => i = .int .i64 0 ∧ Grew w6 wr) (fun _ _ => 0)
          case atStart => exact ⟨rfl, Below.refl _ _⟩
          case round =>
            obtain ⟨rfl, hG⟩ := hrel
            go_wp2
            go_ret
            exact ⟨rfl, G6.trans hG⟩
        · have hon : on = ord.length := by
            have h1 := congrArg List.length B2.out
            have h2 : A.map (·.1) ≠ [] := by intro e; rw [List.map_eq_nil_iff] at e; rw [e] at hA0; exact hA0 rfl
            rw [List.length_map, ← EN.out] at h1
            unfold swapM at h1
            rw [if_neg h2, List.length_map] at h1
            exact h1
          have hAp : 0 < A.length := by omega
          have hAz : ((A.length : Int) == 0) = false := by rw [beq_eq_false_iff_ne]; omega
          have hz4 : ((on : Int) != (ord.length : Int)) = false := by rw [hon]; simp
          have HON := Lib.hid hon
          clear hon hA0
          go_wp2_with fail
          go_loopw [10] (fun i wr => ∃ k : Nat, k ≤ on ∧ i = .int .i64 k ∧ Grew w6 wr) (fun i _ => on - (intOf i).toNat)
          case atStart => exact ⟨0, Nat.zero_le _, rfl, Below.refl _ _⟩
          case round =>
            obtain ⟨k, hk, rfl, hG⟩ := hrel
            by_cases hlt : k < on
            · have hko : k < ord.length := by rw [← HON.out]; exact hlt
              have hkB : k < B.length := by rw [← EN.out]; exact hlt
              have GW := G6.trans hG
              obtain ⟨b1, o1', rfl, hc1⟩ := (((BB.out.grew g5).grew d6.grew).grew hG).cells (by omega)
              obtain ⟨x0, x1, x2⟩ := hc1 k hkB
              obtain ⟨b2, o2', rfl, hc2⟩ := HU.out (by omega)
              have y0 := (below_ext GW) _ _ (hc2 k _ (iiv_get ord k hko))
              obtain ⟨b3, o3', rfl, hc3⟩ := (HA.out.grew GW).cells hAp
              have hrl := restN_lt ord[k] hAp
              obtain ⟨s0, s1, s2⟩ := hc3 (restN ord[k] A.length) hrl
              have hfr : B[k].1 = A[restN ord[k] A.length].1 := by
                have h1 : (B.map (·.1))[k]? = some B[k].1 := by rw [List.getElem?_map, List.getElem?_eq_getElem hkB]; rfl
                have h2 : A.map (·.1) ≠ [] := by intro e; rw [List.map_eq_nil_iff] at e; rw [e] at hAp; exact absurd hAp (Nat.lt_irrefl 0)
                rw [B2.out] at h1
                unfold swapM at h1
                rw [if_neg h2, List.getElem?_map, List.getElem?_eq_getElem hko, Option.map_some, List.length_map, List.getD_eq_getElem?_getD, List.getElem?_eq_getElem (by rw [List.length_map]; exact hrl), Option.getD_some, List.getElem_map] at h1
                exact (Option.some.inj h1).symm
              obtain ⟨hb1, hb2⟩ := HB.out ord[k] (List.getElem_mem hko)
              have kr := fun W => r16rest_any ord[k] _ A.length rfl hAp (by omega) hb1 hb2 W
              rw [hfr] at x0 x2
              generalize ord[k] = z at y0 kr hrl s0 s1 s2 x0 x2 hfr
              obtain ⟨r, hr⟩ : ∃ r, r = restN z A.length := ⟨_, rfl⟩
              simp only [← hr] at kr hrl s0 s1 s2 x0 x2 hfr
              generalize A[r].1 = f at s0 s2 x0 x2 hfr
              obtain ⟨xa, xc, e⟩ := bs_len x2
              rw [e] at x1 x2
              obtain ⟨sa, sc, e'⟩ := bs_len s2
              rw [e'] at s1 s2
              have ks : ∀ W, Grew wr W → _ := fun W g => r13same_any f f _ _ W (x2.grew g) (s2.grew g)
              rw [show (f == f) = true by simp] at ks
              have KR := Lib.hid kr
              have KS := Lib.hid ks
              have z0 : (0 : Int) ≤ (k : Int) := by omega
              have z1 : (k : Int) < (on : Int) := by omega
              have z2 : (k : Int) < (ord.length : Int) := by omega
              have z3 : (r : Int) < (A.length : Int) := by omega
              clear hc1 hc2 hc3 x2 s2 e e' kr ks hfr hr
              go_wp2_with fail
              go_region_with (first
                | (go_at_call 20; refine (KR.out _).mono ?_; rintro y w7 ⟨rfl, rfl⟩)
                | (go_at_call 19; refine (KS.out _ (Drew.grew ⟨1, rfl⟩)).mono ?_; rintro y w8 ⟨rfl, g8⟩))
              all_goals go_wp2
              all_goals go_roundw
              all_goals first
                | exact ⟨k + 1, by omega, by go_num, (hG.trans (Drew.grew ⟨1, rfl⟩ : Grew wr wr.drew)).trans g8⟩
                | (simp [intOf]; omega)
            · obtain rfl : k = on := by omega
              go_wp2
              go_ret
              exact ⟨rfl, G6.trans hG⟩
      · obtain ⟨i, rfl⟩ : ∃ i : Nat, L = (i : Int) := ⟨L.toNat, by omega⟩
        have kf := sframes_any A _ w1 (HA.out.grew g1) (by omega)
        rw [HM.out, if_neg c1] at kf
        simp only [Int.toNat_natCast] at kf
        have KF := Lib.hid kf
        have c2 : (0 : Int) ≤ (i : Int) := by omega
        clear c1 kf
        go_wp2_with fail
        refine KF.out.mono ?_
        rintro e w2 ⟨v2, rfl, o2, g2⟩
        obtain ⟨a2, c2, rfl⟩ := bs_len (Sl.of_own o2)
        go_wp2
        go_ret
        exact ⟨rfl, (g1.trans g2).trans (grew_alloc _ _)⟩
end Go.Proofs.Ytoinndlialimcaa
