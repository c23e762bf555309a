/- The law OutletBack returns true: its walk. -/
import Derived.Test.YtakogncnkbgkfaaOba
namespace Go.Proofs.Ytakogncnkbgkfaa
open Go Go.RowKit Go.Shelf
attribute [local go_sem] Oper.semAt_some

set_option maxRecDepth 100000 in
set_option maxHeartbeats 8000000 in
theorem outlet_back (A : List Ask5) (v : Value) (w : World) (hs1 : Sl w v A.length 5 (asks5V A)) (hA1 : ∀ a ∈ A, a.ok w) :
    Calls Try.prog 7 #[v] w fun e w' => e = .returned (.bool true) ∧ Grew w w' := by
  obtain ⟨a1, c1, rfl, l1, l2, -, hcell1⟩ := hs1.open
  unfold maxLen at l2
  cases hsm1 : smallB A with
  | false =>
    have HSM := Lib.hid hsm1
    clear hsm1 hcell1
    go_enter Try.func7, Try.ntmps7
    go_wp2_with fail
    refine (live5_any _).mono ?_
    rintro e w1 ⟨rfl, g1⟩
    go_wp2_with fail
    refine (small_any A _ _ (hs1.grew g1) (fun a ha => (hA1 a ha).grew g1)).mono ?_
    rintro e w2 ⟨rfl, rfl⟩
    rw [HSM.out]
    go_wp2
    go_ret
    exact ⟨rfl, g1⟩
  | true =>
  obtain ⟨hlen1, hBs1⟩ := small_len hsm1
  have hfull : (full5 A).length ≤ 2000 * A.length := full5_le A fun a ha => ⟨(hA1 a ha).n, (hA1 a ha).wire, hBs1 a ha⟩
  have HSM1 := Lib.hid hsm1
  have HC1 := Lib.hid hcell1
  have HA1 := Lib.hid hA1
  have HB1 := Lib.hid hBs1
  have HS1 := Lib.hid hs1
  clear hsm1 hcell1 hA1 hBs1 hs1
  go_enter Try.func7, Try.ntmps7
  go_wp2_with fail
  refine (live5_any _).mono ?_
  rintro e w1 ⟨rfl, g1⟩
  go_wp2_with fail
  refine (small_any A _ _ (HS1.out.grew g1) (fun a ha => (HA1.out a ha).grew g1)).mono ?_
  rintro e w2 ⟨rfl, rfl⟩
  rw [HSM1.out]
  go_wp2_with fail
  refine (onew_any 1048576 _).mono ?_
  rintro e w2 ⟨rfl, o2, g2⟩
  rw [show clampM 1048576 = 1048576 from by decide] at o2
  have G2 := Grew.trans g1 g2
  have hb1 : w.heap.size ≤ w1.heap.size := g1.size
  obtain ⟨p, hp⟩ : ∃ p, w1.heap.size = p := ⟨_, rfl⟩
  rw [hp] at o2 hb1
  have HP := Lib.hid hp
  clear g1 g2 hp
  go_wp2_with fail
  rw [HP.out]
  go_loopw [4] (fun i wr => ∃ (k : Nat) (Fo : Nat → Prop), k ≤ A.length ∧ i = .int .i64 k ∧ OutO p Fo wr p (full5 (A.take k)) 1048576 ∧ Hid (∀ a ∈ A.take k, a.kind ≤ 4 ∧ (askW a).2 = 0) ∧ Grew w wr) (fun i _ => A.length - (intOf i).toNat)
  case atStart => exact ⟨0, _, by omega, rfl, o2, (fun a ha => by simp at ha), G2⟩
  case round =>
    obtain ⟨k, Fo, hk, rfl, hO, hall, hg⟩ := hrel
    clear o2 G2
    by_cases hlt : k < A.length
    · obtain ⟨b0, off, rfl, hc⟩ := HC1.out (by omega)
      have hok := HA1.out A[k] (List.getElem_mem hlt)
      have hBl := HB1.out A[k] (List.getElem_mem hlt)
      have hsn := full5_snoc A k hlt
      have htk : A.take (k + 1) = A.take k ++ [A[k]] := List.take_succ_eq_append_getElem hlt
      have hble : (full5 (A.take k)).length + (askW A[k]).1.length ≤ 2000 * A.length := by
        have h1 := full5_drop A k hlt
        have h2 := congrArg List.length h1
        rw [List.length_drop, List.length_append] at h2
        have h3 : (full5 (A.take k)).length ≤ (full5 A).length := by
          have e : full5 A = full5 (A.take k) ++ full5 (A.drop k) := by
            conv => lhs; rw [← List.take_append_drop k A]
            unfold full5
            rw [List.flatMap_append]
          rw [e, List.length_append]; omega
        omega
      obtain ⟨x, hx⟩ : ∃ x, A[k] = x := ⟨_, rfl⟩
      have hget : ∀ i, i < 5 → (asks5V A)[k * 5 + i]? = (ask5V A[k])[i]? := fun i hi => flat_get5 (f := ask5V) (k := 5) (fun _ => rfl) A k hlt i hi
      rw [hx] at hget hok hBl hsn htk hble
      have hdo : ∀ g, Value.blk x.v = some g → x.B ≠ [] → ¬ Fo g := fun g hg' hn hF => by
        have h1 := bs_blk_lt hok.bs g hg' hn
        have h2 := (hO.own g hF).1
        omega
      have hokW := hok.grew hg
      have kdo := fun W ho hk => do_any p Fo (full5 (A.take k)) p 1048576 x W ho hk hBl hdo
      have hD1 : (askW x).2 = 0 → askD x 1048576 (full5 (A.take k)) = (full5 (A.take k) ++ (askW x).1, 0) := fun h => by
        unfold askD putR
        rw [if_neg (by simp [h]), if_neg (by omega)]
      have hD2 : (askW x).2 ≠ 0 → askD x 1048576 (full5 (A.take k)) = (full5 (A.take k), (askW x).2) := fun h => by
        unfold askD
        rw [if_pos h]
      have hE1 := askW_ok1 x
      obtain ⟨b', hb'⟩ : ∃ b', full5 (A.take k) ++ (askW x).1 = b' := ⟨_, rfl⟩
      obtain ⟨ew, hew⟩ : ∃ ew, (askW x).2 = ew := ⟨_, rfl⟩
      rw [hb'] at hsn hD1
      rw [hew] at hD1 hD2 hE1
      have HALL : Hid (ew = 0 → x.kind ≤ 4 → ∀ a ∈ A.take (k + 1), a.kind ≤ 4 ∧ (askW a).2 = 0) := fun h1 h2 a ha => by
        rw [htk, List.mem_append, List.mem_singleton] at ha
        rcases ha with ha | rfl
        · exact hall.out a ha
        · exact ⟨h2, hew.trans h1⟩
      obtain ⟨kd, n, num, wire, vb, B⟩ := x
      have hbb : Bs w vb B := hok.bs
      obtain ⟨av, cv, rfl⟩ := bs_len hbb
      have d0 := hc _ _ (hget 0 (by omega))
      have d1 := hc _ _ (hget 1 (by omega))
      have d2 := hc _ _ (hget 2 (by omega))
      have d3 := hc _ _ (hget 3 (by omega))
      have d4 := hc _ _ (hget 4 (by omega))
      simp only [Nat.add_zero, ← Nat.add_assoc] at d0 d1 d2 d3 d4
      have e0 := (below_ext hg) _ _ d0
      have e1 := (below_ext hg) _ _ d1
      have e2 := (below_ext hg) _ _ d2
      have e3 := (below_ext hg) _ _ d3
      have e4 := (below_ext hg) _ _ d4
      simp only [ask5V] at kdo hE1 HALL
      have hsnh := Lib.hid hsn
      clear hget hc hx hdo hb' hew htk hble hsn hall
      by_cases hk4 : kd ≤ 4
      · have hgt : decide ((4 : Int) < (kd : Int)) = false := by simp; omega
        by_cases hee : ew = 0
        · subst hee
          rw [hD1 rfl] at kdo
          have KDO := Lib.hid kdo
          clear kdo hD1 hD2 hE1
          go_wp2_with fail
          refine (KDO.out _ hO hokW).mono ?_
          rintro _ W3 ⟨rfl, F3, hO3, hf3, hn3⟩
          have hg3 : Grew w W3 := hf3.grew hg (fun i e => Nat.le_trans hb1 (hO.own i e).1)
          clear hO hf3 hn3 hg hokW
          go_wp2
          go_roundw
          case rel => exact ⟨k + 1, F3, by omega, by go_num, by rw [hsnh.out]; exact hO3, Lib.hid (HALL.out (by simp) hk4), hg3⟩
          case measure => simp [intOf]; omega
        · have hk1 := hE1 hee
          subst hk1
          rw [hD2 hee] at kdo
          have KDO := Lib.hid kdo
          have hene : ((ew : Int) != 0) = true := by simpa using hee
          clear kdo hD1 hD2 hE1
          go_wp2_with fail
          refine (KDO.out _ hO hokW).mono ?_
          rintro _ W3 ⟨rfl, F3, hO3, hf3, hn3⟩
          have hg3 : Grew w W3 := hf3.grew hg (fun i e => Nat.le_trans hb1 (hO.own i e).1)
          have z0 := (below_ext hg3) _ _ d0
          clear hO hf3 hn3 hg hokW
          go_wp2
          go_ret
          exact ⟨rfl, hg3⟩
      · have hgt : decide ((4 : Int) < (kd : Int)) = true := by simp; omega
        clear kdo hD1 hD2 hE1
        go_wp2
        go_ret
        exact ⟨rfl, hg⟩
    · obtain rfl : k = A.length := by omega
      rw [List.take_length] at hall hO
      go_wp2_with fail
      refine (oout_any _ Fo (full5 A) p 1048576 wr hO).mono ?_
      rintro _ W1 ⟨vw, rfl, hvw, gW1⟩
      have hg2 := Grew.trans hg gW1
      clear hO hg gW1
      go_wp2_with fail
      refine (inew_any (full5 A) vw W1 (Sl.of_own hvw) (by omega)).mono ?_
      rintro _ W2 ⟨q, rfl, hq, hI, gW2⟩
      have hqw : w.heap.size ≤ q := Nat.le_trans hg2.size hq
      have hg3 := Grew.trans hg2 gW2
      clear hvw hg2 gW2 hq
      go_wp2
      go_loopw [7] (fun i wr => ∃ (k : Nat), k ≤ A.length ∧ i = .int .i64 k ∧ InI wr q (full5 A) (full5 (A.take k)).length ∧ Grew w wr) (fun i _ => A.length - (intOf i).toNat)
      case atStart => exact ⟨0, by omega, rfl, hI, hg3⟩
      case round =>
        clear hI hg3
        obtain ⟨k, hk, rfl, hI, hg⟩ := hrel
        by_cases hlt : k < A.length
        · obtain ⟨b0, off, rfl, hc⟩ := HC1.out (by omega)
          have hok := HA1.out A[k] (List.getElem_mem hlt)
          have hBl := HB1.out A[k] (List.getElem_mem hlt)
          have hdrop := full5_drop A k hlt
          have hpos : (full5 (A.take (k + 1))).length = (full5 (A.take k)).length + (askW A[k]).1.length := by rw [full5_snoc A k hlt, List.length_append]
          have hax := hall.out A[k] (List.getElem_mem hlt)
          obtain ⟨x, hx⟩ : ∃ x, A[k] = x := ⟨_, rfl⟩
          have hget : ∀ i, i < 5 → (asks5V A)[k * 5 + i]? = (ask5V A[k])[i]? := fun i hi => flat_get5 (f := ask5V) (k := 5) (fun _ => rfl) A k hlt i hi
          rw [hx] at hget hok hBl hdrop hpos hax
          have hll : (full5 A).length ≤ 1000000000 := by omega
          obtain ⟨t, ht⟩ : ∃ t, full5 (A.drop (k + 1)) = t := ⟨_, rfl⟩
          obtain ⟨pos, hps⟩ : ∃ pos, (full5 (A.take k)).length = pos := ⟨_, rfl⟩
          rw [ht, hps] at hdrop
          rw [hps] at hpos hI
          obtain ⟨kd, n, num, wire, vb, B⟩ := x
          have hbb : Bs w vb B := hok.bs
          have hn64 : n < 18446744073709551616 := hok.n
          have hw256 : wire < 256 := hok.wire
          obtain ⟨av, cv, rfl⟩ := bs_len hbb
          have d0 := hc _ _ (hget 0 (by omega))
          have d1 := hc _ _ (hget 1 (by omega))
          have d2 := hc _ _ (hget 2 (by omega))
          have d3 := hc _ _ (hget 3 (by omega))
          have d4 := hc _ _ (hget 4 (by omega))
          simp only [Nat.add_zero, ← Nat.add_assoc] at d0 d1 d2 d3 d4
          have e0 := (below_ext hg) _ _ d0
          have e1 := (below_ext hg) _ _ d1
          have e2 := (below_ext hg) _ _ d2
          have e3 := (below_ext hg) _ _ d3
          have e4 := (below_ext hg) _ _ d4
          have ga := grew_alloc wr (.cells #[.int .u8 kd, .int .u64 n, .int .i64 num, .int .u8 wire, .slice av B.length cv] 35)
          have hnb := Blk.new wr 35 #[.int .u8 kd, .int .u64 n, .int .i64 num, .int .u8 wire, .slice av B.length cv]
          obtain ⟨n0, n1, n2, n3, n4⟩ := cells5 hnb
          have hne : wr.heap.size ≠ q := by have := hI.lt; omega
          have hI1 := hI.grew ga
          have hg1 := Grew.trans hg ga
          obtain ⟨L, hL⟩ : ∃ L, full5 A = L := ⟨_, rfl⟩
          rw [hL] at hdrop hI1 hll
          have HL := Lib.hid hL
          have hkd : kd = 0 ∨ kd = 1 ∨ kd = 2 ∨ kd = 3 ∨ kd = 4 := by have : kd ≤ 4 := hax.1; omega
          have hposh := Lib.hid hpos
          clear hget hc hx ht hps hL hpos d0 d1 d2 d3 d4 hI hg ga
          rcases hkd with rfl | rfl | rfl | rfl | rfl
          · have kv := ivarint_any L q pos _ hI1
            rw [back_var L t pos n hn64 hdrop] at kv
            simp only [outF, fltAt, ↓reduceIte] at kv
            have KV := Lib.hid kv
            clear kv hI1 hdrop
            go_wp2_with fail
            refine KV.out.mono ?_
            rintro _ W2 ⟨rfl, hI2, hf2⟩
            have gf := grew_alloc W2 (.cells #[.int .i64 0, .int .i64 0] 59)
            have hnb2 := (hnb.fr hf2 hne).grew gf
            have hg2 : Grew w W2 := hf2.grew hg1 (fun i e => by omega)
            have hg3 := Grew.trans hg2 gf
            have hI3 := hI2.grew gf
            clear n0 n1 n2 n3 n4
            obtain ⟨n0, n1, n2, n3, n4⟩ := cells5 hnb2
            clear hI2 hf2 hnb hnb2 hg1 hg2 gf
            go_wp2
            go_roundw
            case rel => exact ⟨k + 1, by omega, by go_num, by rw [hposh.out, HL.out]; exact hI3, hg3⟩
            case measure => simp [intOf]; omega
          · have hte : (tmake num wire).2 = 0 := hax.2
            have kv := itag_any L q pos _ hI1
            rw [back_tag L t pos num wire hw256 hte hdrop] at kv
            simp only [tmake_num num wire hte] at kv
            simp only [outF, fltAt, ↓reduceIte] at kv
            have KV := Lib.hid kv
            clear kv hI1 hdrop
            go_wp2_with fail
            refine KV.out.mono ?_
            rintro _ W2 ⟨rfl, hI2, hf2⟩
            have gf := grew_alloc W2 (.cells #[.int .i64 0, .int .i64 0] 59)
            have hnb2 := (hnb.fr hf2 hne).grew gf
            have hg2 : Grew w W2 := hf2.grew hg1 (fun i e => by omega)
            have hg3 := Grew.trans hg2 gf
            have hI3 := hI2.grew gf
            clear n0 n1 n2 n3 n4
            obtain ⟨n0, n1, n2, n3, n4⟩ := cells5 hnb2
            clear hI2 hf2 hnb hnb2 hg1 hg2 gf
            go_wp2
            go_roundw
            case rel => exact ⟨k + 1, by omega, by go_num, by rw [hposh.out, HL.out]; exact hI3, hg3⟩
            case measure => simp [intOf]; omega
          · have kv := ifour_any L q pos _ hI1
            rw [back_fix L t pos 4 (n % 4294967296) (by omega) hdrop] at kv
            simp only [outF, fltAt, ↓reduceIte] at kv
            have KV := Lib.hid kv
            clear kv hI1 hdrop
            go_wp2_with fail
            refine KV.out.mono ?_
            rintro _ W2 ⟨rfl, hI2, hf2⟩
            have gf := grew_alloc W2 (.cells #[.int .i64 0, .int .i64 0] 59)
            have hnb2 := (hnb.fr hf2 hne).grew gf
            have hg2 : Grew w W2 := hf2.grew hg1 (fun i e => by omega)
            have hg3 := Grew.trans hg2 gf
            have hI3 := hI2.grew gf
            clear n0 n1 n2 n3 n4
            obtain ⟨n0, n1, n2, n3, n4⟩ := cells5 hnb2
            clear hI2 hf2 hnb hnb2 hg1 hg2 gf
            go_wp2
            go_roundw
            case rel => exact ⟨k + 1, by omega, by go_num, by rw [hposh.out, HL.out]; exact hI3, hg3⟩
            case measure => simp [intOf]; omega
          · have kv := ieight_any L q pos _ hI1
            rw [back_fix L t pos 8 n (by omega) hdrop] at kv
            simp only [outF, fltAt, ↓reduceIte] at kv
            have KV := Lib.hid kv
            clear kv hI1 hdrop
            go_wp2_with fail
            refine KV.out.mono ?_
            rintro _ W2 ⟨rfl, hI2, hf2⟩
            have gf := grew_alloc W2 (.cells #[.int .i64 0, .int .i64 0] 59)
            have hnb2 := (hnb.fr hf2 hne).grew gf
            have hg2 : Grew w W2 := hf2.grew hg1 (fun i e => by omega)
            have hg3 := Grew.trans hg2 gf
            have hI3 := hI2.grew gf
            clear n0 n1 n2 n3 n4
            obtain ⟨n0, n1, n2, n3, n4⟩ := cells5 hnb2
            clear hI2 hf2 hnb hnb2 hg1 hg2 gf
            go_wp2
            go_roundw
            case rel => exact ⟨k + 1, by omega, by go_num, by rw [hposh.out, HL.out]; exact hI3, hg3⟩
            case measure => simp [intOf]; omega
          · have kv := ibytes_any L q pos 1000 (by omega) (by omega) hll _ hI1
            rw [back_bytes L t B pos hBl hdrop] at kv
            simp only [outF, fltAt, ↓reduceIte] at kv
            have KV := Lib.hid kv
            clear kv hI1 hdrop
            go_wp2_with fail
            refine KV.out.mono ?_
            rintro _ W2 ⟨vr, rfl, hvr, hI2, hf2⟩
            have hvr3 := Sl.of_own (own_grew hvr (grew_alloc W2 (.cells #[.int .i64 0, .int .i64 0] 59)))
            clear hvr
            have gf := grew_alloc W2 (.cells #[.int .i64 0, .int .i64 0] 59)
            have hnb2 := (hnb.fr hf2 hne).grew gf
            have hg2 : Grew w W2 := hf2.grew hg1 (fun i e => by omega)
            have hg3 := Grew.trans hg2 gf
            have hI3 := hI2.grew gf
            clear n0 n1 n2 n3 n4
            obtain ⟨n0, n1, n2, n3, n4⟩ := cells5 hnb2
            clear hI2 hf2 hnb hnb2 hg1 hg2 gf
            have hbb3 := hbb.grew hg3
            go_wp2_with fail
            refine (same_any B B _ _ _ hvr3 hbb3).mono ?_
            rintro _ W4 ⟨rfl, hd⟩
            have hI4 := hI3.grew hd.grew
            have hg4 := Grew.trans hg3 hd.grew
            obtain ⟨nd, rfl⟩ := hd
            rw [beq_self_eq_true]
            clear hI3 hg3 hvr3 hbb3
            go_wp2
            go_roundw
            case rel => exact ⟨k + 1, by omega, by go_num, by rw [hposh.out, HL.out]; exact (show (askW { kind := 4, n := n, num := num, wire := wire, v := Value.slice av B.length cv, B := B }).1.length = (vput B.length).length + B.length from List.length_append) ▸ hI4, hg4⟩
            case measure => simp [intOf]; omega
        · obtain rfl : k = A.length := by omega
          rw [List.take_length] at hI
          go_wp2_with fail
          refine (left_any _ q _ wr hI).mono ?_
          rintro _ W3 ⟨rfl, hd⟩
          have hg4 := Grew.trans hg hd.grew
          rw [Nat.sub_self]
          clear hd hI hg
          go_wp2
          go_ret
          exact ⟨rfl, hg4⟩
end Go.Proofs.Ytakogncnkbgkfaa
