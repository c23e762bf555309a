/- rescriptref12.Any: contract. -/
import Derived.Test.YtbjoohafgkodcaaGreatSg1
import Derived.Test.YtbjoohafgkodcaaGreatSs4
namespace Go.Proofs.YtbjoohafgkodcaaGreat
open Go Go.RowKit Go.Shelf
attribute [local go_sem] Oper.semAt_some

theorem r12a_done {w W : World} {Z m0 : Msg} {lv lv0 : Value} (x : Int) (b : Bool) (h0 : Blk W w.heap.size 29 (msgA m0 lv0)) (ho : OwnT W w.heap.size lv Z.l) (hg : Grew w W) (n0 : lv.ownBlock ≠ some w.heap.size)
    (tmps : Array Value) (t0 : tmps.getD 2 undef = .pointer (some ⟨w.heap.size, 0, none⟩)) (t1 : tmps.getD 3 undef = .int .i64 x) (t2 : tmps.getD 4 undef = .bool b) :
    ∃ v, (results Tryz.f12 tmps).run Tryz.prog (chainW W w.heap.size Z lv) = .ok v (chainW W w.heap.size Z lv) ∧ (∃ lv', Ending.returned v = .returned (.tuple #[.agg (msgA Z lv'), .int .i64 x, .bool b]) ∧ OwnT (chainW W w.heap.size Z lv) w.heap.size lv' Z.l ∧ Grew w (chainW W w.heap.size Z lv)) :=
  ⟨_, results_ctt rfl _ _ _ _ _ _ t0 t1 t2 (loadVar_msg _ _ _ _ (chain_blk h0 Z lv)), lv, rfl, chain_own ho n0 Z lv, chain_below hg (Nat.le_refl _) Z lv⟩
set_option maxRecDepth 100000 in
set_option maxHeartbeats 8000000 in
theorem r12any_any (l : List UInt8) (v : Value) (w : World) (hb : Bs w v l) (hlen : l.length ≤ 100000) :
    Calls Tryz.prog 12 #[v] w (AnyP l w) := by
  obtain ⟨a, c, rfl⟩ := bs_len hb
  have HB := Lib.hid hb
  obtain ⟨W0, hW0⟩ : ∃ W0, W0 = w.alloc (.cells zMsg 29) := ⟨_, rfl⟩
  have K0 := Lib.hid (show Blk W0 w.heap.size 29 (msgA mZ (.slice none 0 0)) by rw [hW0]; exact Blk.new _ _ _)
  have G0 := Lib.hid (show Grew w W0 by rw [hW0]; exact grew_alloc _ _)
  have HS := Lib.hid (fun p => any_some (l := l) (p := p))
  have HN := Lib.hid (any_none (l := l))
  unfold AnyP
  generalize anyM l = Y at HS HN ⊢
  simp only [zMsg] at hW0
  clear hb
  go_enter Tryz.func12, Tryz.ntmps12
  go_upto_region 1 with (fail)
  rw [← hW0]
  clear hW0
  go_wp2_with fail
  go_loopw [5] (fun ix wr => ∃ k : Nat, ix = .int .i64 k ∧ 1 ≤ k ∧ k ≤ 11 ∧ RowKit.Hid ((kvs.take (3 * (k - 1))).find? (okK l) = none) ∧ Blk wr w.heap.size 29 (msgA mZ (.slice none 0 0)) ∧ Grew w wr) (fun ix _ => 11 - (intOf ix).toNat)
  case atStart => exact ⟨1, rfl, Nat.le_refl _, by omega, Lib.hid rfl, K0.out, G0.out⟩
  case round =>
    obtain ⟨k, rfl, hk1, hk2, hf, hK, hG⟩ := hrel
    by_cases hk : k ≤ 10
    · have z0 : (k : Int) ≤ 10 := by omega
      have KK := Lib.hid hK
      have GG := Lib.hid hG
      generalize wr = wq at KK GG ⊢
      clear hK hG
      go_wp2_with fail
      go_loopw [6] (fun ix wr => ∃ j : Nat, ix = .int .i64 j ∧ 1 ≤ j ∧ j ≤ 4 ∧ RowKit.Hid ((kvs.take (3 * (k - 1) + (j - 1))).find? (okK l) = none) ∧ Blk wr w.heap.size 29 (msgA mZ (.slice none 0 0)) ∧ Grew w wr) (fun ix _ => 4 - (intOf ix).toNat)
      case atStart => exact ⟨1, rfl, Nat.le_refl _, by omega, hf, KK.out, GG.out⟩
      case round =>
        obtain ⟨j, rfl, hj1, hj2, hf2, hK, hG⟩ := hrel
        have KJ := Lib.hid hK
        have GJ := Lib.hid hG
        clear hK hG
        by_cases hj : j ≤ 3
        · have z1 : (j : Int) ≤ 3 := by omega
          have hwu : IntKind.u8.wrap (k : Int) = (k : Int) := by rw [IntKind.wrap_u8]; omega
          have KD := Lib.hid (r12decode_any k (j : Int) l _ wr (HB.out.grew GJ.out) hlen)
          have hnx := kvs_next hk1 hk hj1 hj
          obtain ⟨Z, hZ⟩ : ∃ Z, Z = strM k (j : Int) l := ⟨_, rfl⟩
          have hokk : okK l (k, j) = (Z.2.1 == 0) := by rw [hZ]; rfl
          have HY := Lib.hid (show Z.2.1 = 0 → Y = (Z.1, j, true) from fun h => by
            have h1 : kvs.find? (okK l) = some (k, j) := by
              rw [← List.take_append_drop (3 * (k - 1) + (j + 1 - 1)) kvs, hnx, List.find?_append, List.find?_append, hf2.out]
              simp [hokk, h]
            rw [HS.out _ h1, hZ])
          have HNX := Lib.hid (show Z.2.1 ≠ 0 → (kvs.take (3 * (k - 1) + (j + 1 - 1))).find? (okK l) = none from fun h => by
            rw [hnx, List.find?_append, hf2.out]
            simp [hokk, h])
          unfold StrP at KD
          rw [← hZ] at KD
          obtain ⟨Dm, De, Da⟩ := Z
          simp only [fltI, msgA] at KD
          clear hnx hZ hokk hf2
          go_wp2_with fail
          refine KD.out.mono ?_
          rintro e w3 ⟨lv, rfl, ho, g3⟩
          obtain ⟨al, cl, rfl⟩ := tx_len (Sl.of_own ho)
          obtain ⟨V3, hV3⟩ : ∃ V, V = (w3.alloc (.cells (msgA Dm (.slice al Dm.l.length cl)) 29)).alloc (.cells #[.int .i64 (De : Nat), .int .i64 Da] 32) := ⟨_, rfl⟩
          have gv : Grew w3 V3 := by rw [hV3]; exact grew22 _ _ _
          have km : Blk V3 w3.heap.size 29 (msgA Dm (.slice al Dm.l.length cl)) := by rw [hV3]; exact (Blk.new _ _ _).alloc _
          have kf : Blk V3 (w3.heap.size + 1) 32 #[.int .i64 (De : Nat), .int .i64 Da] := by rw [hV3]; exact Blk.at (by simp)
          have K3 := Lib.hid ((KJ.out.grew g3).grew gv)
          have G3 := Lib.hid ((GJ.out.trans g3).trans gv)
          have N3 := Lib.hid (show (Value.slice al Dm.l.length cl).ownBlock ≠ some w.heap.size from fun e => by have h1 := (own_lt ho _ e).1; have h2 := KJ.out.lt; omega)
          have O3 := Lib.hid (own_mono (own_grew ho gv) GJ.out.size)
          obtain ⟨x0, x1, -, -⟩ := cells_of kf
          obtain ⟨c0, c1, c2, c3, c4, c5, c6, c7, c8, c9⟩ := mcells km
          simp only [msgA] at hV3
          clear ho g3 gv km kf KD
          go_upto_region 8 with (fail)
          rw [← hV3]
          clear hV3
          by_cases hE : De = 0
          · have qe : ((De : Int) == 0) = true := by simp [hE]
            have hY : Y = (Dm, j, true) := HY.out hE
            subst hY
            obtain ⟨o0, o1, o2, o3, o4, o5, o6, o7, o8, o9⟩ := mcells K3.out
            have fz := fun i => (K3.out).frozen i
            have f0 := fz 0
            have f1 := fz 1
            have f2 := fz 2
            have f3 := fz 3
            have f4 := fz 4
            have f5 := fz 5
            have f6 := fz 6
            have f7 := fz 7
            have f8 := fz 8
            have f9 := fz 9
            clear fz hE
            go_wp2
            exact post_of rfl (r12a_done (Z := Dm) (m0 := mZ) (lv0 := .slice none 0 0) (j : Int) true K3.out O3.out G3.out N3.out _ rfl rfl rfl)
          · have qe : ((De : Int) == 0) = false := by simp [hE]
            have hnn := HNX.out hE
            have HNN := Lib.hid hnn
            clear hE hnn
            go_wp2
            go_roundw
            case rel => exact ⟨j + 1, by go_num, by omega, by omega, HNN, K3.out, G3.out⟩
            case measure => simp [intOf]; omega
        · have z1 : ¬ (j : Int) ≤ 3 := by omega
          obtain rfl : j = 4 := by omega
          have HF3 := Lib.hid (show (kvs.take (3 * (k + 1 - 1))).find? (okK l) = none by rw [show 3 * (k + 1 - 1) = 3 * (k - 1) + (4 - 1) by omega]; exact hf2.out)
          clear hf2
          go_wp2
          go_roundw
          case rel => exact ⟨k + 1, by go_num, by omega, by omega, HF3, KJ.out, GJ.out⟩
          case measure => simp [intOf]; omega
    · have z0 : ¬ (k : Int) ≤ 10 := by omega
      obtain rfl : k = 11 := by omega
      have hn0 : kvs.find? (okK l) = none := by
        have := hf.out
        rw [List.take_of_length_le (by rw [kvs_len]; omega)] at this
        exact this
      have hY := HN.out hn0
      subst hY
      have KJ := Lib.hid hK
      have GJ := Lib.hid hG
      obtain ⟨o0, o1, o2, o3, o4, o5, o6, o7, o8, o9⟩ := mcells KJ.out
      have fz := fun i => (KJ.out).frozen i
      have f0 := fz 0
      have f1 := fz 1
      have f2 := fz 2
      have f3 := fz 3
      have f4 := fz 4
      have f5 := fz 5
      have f6 := fz 6
      have f7 := fz 7
      have f8 := fz 8
      have f9 := fz 9
      clear fz hf hn0 hK hG
      go_wp2
      exact post_of rfl (r12a_done (Z := mZ) (m0 := mZ) (lv0 := .slice none 0 0) 0 false KJ.out (World.ownsRow_nil _ _ _ _) GJ.out (by simp [Value.ownBlock]) _ rfl rfl rfl)
end Go.Proofs.YtbjoohafgkodcaaGreat
