/- The law ResyncGaps returns true: its walk. -/
import Derived.Test.YthjfgefkahgenaaGa4
import Derived.Test.YthjfgefkahgenaaFrV
import Derived.BigQuiet
import Derived.Test.YthjfgefkahgenaaArr
namespace Go.Proofs.Ythjfgefkahgenaa
open Go Go.RowKit Go.Shelf

theorem gaps_cells {W : World} {base : Nat} {a : Option Addr} {n c : Nat} {ps : List GV} (h : GapsV W base (.slice a n c) ps) : 0 < ps.length → ∃ b, a = some ⟨b, 0, none⟩ ∧
    ∀ k (hk : k < ps.length), W.cell? ⟨b, k * 2, none⟩ = some (.int .i64 (ps[k].1 : Nat)) ∧ W.cell? ⟨b, k * 2 + 1, none⟩ = some (.int .i64 (ps[k].2 : Nat)) := by
  intro hl
  obtain ⟨g, cap, e, -, -, -, -, hc⟩ := gaps_open h hl
  simp only [Value.slice.injEq] at e
  exact ⟨g, e.1, fun k hk => ⟨(hc k hk).1, (hc k hk).2.1⟩⟩
theorem gaps_shape {W : World} {base : Nat} {v : Value} {ps : List GV} (h : GapsV W base v ps) : ∃ a c, v = .slice a ps.length c := by
  obtain ⟨a, c, e, -⟩ := (Sl.of_own h).open
  exact ⟨a, c, e⟩
theorem made_had (n : Nat) : madeCells #[Value.int .i64 0] (n * 1) = (hadL n (fun _ => 0)).toArray := by
  have hm : (madeCells #[Value.int .i64 0] (n * 1)).toList = hadL n (fun _ => 0) := by
    rw [hadL_zero]
    rw [List.eq_replicate_iff]
    refine ⟨by simp [madeCells], fun b hb => ?_⟩
    obtain ⟨i, hi, rfl⟩ := List.getElem_of_mem hb
    simp [madeCells, Nat.mod_one]
  rw [← hm]
theorem run_had (n : Nat) (hn : n ≤ 1000000) (W : World) : (Instr.makeSlice 41 (.int .i64 (n : Int)) (.int .i64 (n : Int))).run Try.prog W = .ok (.slice (some ⟨W.heap.size, 0, none⟩) n n) (W.alloc (.cells (hadL n (fun _ => 0)).toArray 3)) := by
  obtain ⟨i0, hi, hz0, hz1, hz2⟩ := info_parts info_int
  have := run_make (P := Try.prog) W 41 3 i0 (.int .i64 0) Try.underlying41 hi hz0 .i64 .i64 n n (by omega) (by omega) (by rw [hz2]; omega) (by omega)
  rw [hz1] at this
  simp only [Int.toNat_natCast] at this
  rw [show (Value.int .i64 0).cells = #[Value.int .i64 0] from rfl, made_had] at this
  exact this
theorem gap_ne (p q : Nat) (W : World) : (binOp .neq 42 (.agg #[.int .i64 (p : Nat), .int .i64 (q : Nat)]) (.agg #[.int .i64 (p : Nat), .int .i64 (q : Nat)])).run Try.prog W = .ok (.bool false) W := by
  have h := run_equal_ints (P := Try.prog) (d := 9998) (t := 42) (e := 3) (k := .i64) (w := W) [(p : Int), (q : Int)] [(p : Int), (q : Int)] 2 rfl rfl Try.underlying42 Try.underlying3 (by kernel_rfl)
  rw [run_neq_struct]
  have e : ([(p : Int), (q : Int)].map (Value.int .i64)).toArray = #[.int .i64 (p : Nat), .int .i64 (q : Nat)] := rfl
  rw [e] at h
  rw [h]
  simp
/-- the places up to k of a span from s on are counted, too -/
def covS (J : List GV) (s k t : Nat) : Nat := cov J t + if s ≤ t ∧ t < k then 1 else 0
theorem covS_start (J : List GV) (s N : Nat) : hadL N (covS J s s) = hadL N (cov J) := hadL_congr N _ _ fun k _ => by unfold covS; rw [if_neg (by omega)]; rfl
theorem covS_step (J : List GV) (s k N : Nat) (h : s ≤ k) : hadL N (fun t => if t = k then covS J s k k + 1 else covS J s k t) = hadL N (covS J s (k + 1)) := by
  refine hadL_congr N _ _ fun t _ => ?_
  have := cov_step J s k t h
  unfold covS
  by_cases e : t = k
  · subst e; simp only [if_true] at this ⊢; rw [← this]
  · rw [if_neg e] at this ⊢; omega
theorem covS_end (J : List GV) (s q N : Nat) : hadL N (covS J s q) = hadL N (cov (J ++ [(s, q)])) := hadL_congr N _ _ fun t _ => by unfold covS; rw [cov_snoc]
theorem covS_le (J : List GV) (s k t : Nat) : covS J s k t ≤ J.length + 1 := by
  have := cov_le J t
  unfold covS; split <;> omega
/-- one more at place k -/
theorem had_inc {W : World} {g N : Nat} {J : List GV} {s k : Nat} (h : Blk W g 3 (hadL N (covS J s k)).toArray) (hs : s ≤ k) (hk : k < N) :
    W.cell? ⟨g, k, none⟩ = some (.int .i64 (covS J s k k : Nat)) ∧ W.frozen? ⟨g, k, none⟩ = false ∧ Blk (W.setCell ⟨g, k, none⟩ (.int .i64 ((covS J s k k : Nat) + 1))) g 3 (hadL N (covS J s (k + 1))).toArray := by
  refine ⟨by rw [h.cell, hadL_get N _ k hk], h.frozen k, ?_⟩
  have h2 := h.set k (.int .i64 ((covS J s k k + 1 : Nat) : Int))
  rw [hadL_set N _ k _ hk, covS_step J s k N hs] at h2
  rw [Int.natCast_add] at h2
  exact h2

set_option maxRecDepth 100000 in
set_option maxHeartbeats 8000000 in
theorem rgaps_walk (l : List UInt8) (v : Value) (w : World) (hb : Bs w v l) :
    Calls Try.prog 4 #[v] w fun e w' => e = .returned (.bool true) ∧ Grew w w' := by
  obtain ⟨a, c, rfl, h1, h2, -, -⟩ := hb.open
  unfold maxLen at h2
  by_cases hl : 3000 < l.length
  · clear hb
    go_enter Try.func4, Try.ntmps4
    go_wp2_with fail
    refine (live14_any _).mono ?_
    rintro e w1 ⟨rfl, g1⟩
    go_wp2
    go_ret
    exact ⟨rfl, g1⟩
  have hl' : l.length ≤ 3000 := by omega
  have HB := Lib.hid hb
  obtain ⟨N, hN⟩ : ∃ N, N = l.length := ⟨_, rfl⟩
  clear hl hb
  go_enter Try.func4, Try.ntmps4
  go_wp2_with fail
  refine (live14_any _).mono ?_
  rintro e w1 ⟨rfl, g1⟩
  have B1 := HB.out.grew g1
  have KG := Lib.hid (gaps_any l _ w1 B1 (by omega))
  have KR := Lib.hid (fun W (g : Grew w1 W) => r14gaps_any l _ W (B1.grew g) (by omega))
  have KA := Lib.hid (fun W (g : Grew w1 W) => all_any l _ W (B1.grew g) (by omega))
  have hg : gapsL l = refG (walkL false l 0).2.2 (walkL false l 0).1 0 := rfl
  have EW := Lib.hid (walk_at false l 0).1
  have FW := (walk_from false l 0).2.1
  have OW := walk_ord false l 0
  have CW := walk_cnt false l 0
  obtain ⟨R, hR⟩ : ∃ R, R = walkL false l 0 := ⟨_, rfl⟩
  rw [← hR] at EW FW OW CW hg KA
  obtain ⟨G, hG⟩ : ∃ G, G = gapsL l := ⟨_, rfl⟩
  rw [← hG] at hg KG KR
  obtain ⟨E, hE⟩ : ∃ E, E = R.2.2 := ⟨_, rfl⟩
  rw [← hE] at hg FW OW KA EW
  obtain ⟨fs, hfs⟩ : ∃ fs, fs = R.1 := ⟨_, rfl⟩
  rw [← hfs] at hg OW KA EW CW
  have hap := refG_apart E fs 0 OW
  have hal := cov_all E fs 0 OW
  have hgl := refG_len E fs 0
  rw [← hg] at hap hal hgl
  have hEl : E ≤ l.length := by omega
  have hGl : G.length ≤ 3001 := by omega
  have hFl : fs.length ≤ 3000 := by omega
  have HAP := Lib.hid hap
  have HAL := Lib.hid hal
  rw [← hN] at hl' h1 hEl KG KR KA ⊢
  have HN := Lib.hid hN
  clear hR hG hE hfs hap hal hgl hg FW OW CW B1 hN
  clear R
  go_wp2_with fail
  refine KG.out.mono ?_
  rintro e w2 ⟨v2, rfl, r2, g2⟩
  obtain ⟨a2, c2, rfl⟩ := gaps_shape r2
  go_wp2_with fail
  refine (KR.out w2 g2).mono ?_
  rintro e w3 ⟨v3, rfl, r3, g3⟩
  obtain ⟨a3, c3, rfl⟩ := gaps_shape r3
  have z0 : ((G.length : Int) != (G.length : Int)) = false := by simp
  have R2 := Lib.hid r2
  have R3 := Lib.hid r3
  clear r2 r3
  go_wp2_with fail
  refine (KA.out w3 (g2.trans g3)).mono ?_
  rintro e w4 ⟨v4, rfl, r4, g4⟩
  obtain ⟨a4, n4, c4, rfl, hn4, h41, h42⟩ := r4.shape
  subst hn4
  have R4 := Lib.hid r4.frs
  have HC2 := Lib.hid (gaps_cells (R2.out.grew (g3.trans g4)))
  have HC3 := Lib.hid (gaps_cells (R3.out.grew g4))
  clear r4 KG KR KA R2 R3
  have HM := Lib.hid (run_had N (by omega))
  obtain ⟨gh, hgh⟩ : ∃ gh, gh = w4.heap.size := ⟨_, rfl⟩
  have hm := HM.out w4
  rw [← hgh] at hm
  have hblk : Blk (w4.alloc (.cells (hadL N (fun _ => 0)).toArray 3)) gh 3 (hadL N (fun _ => 0)).toArray := Blk.at hgh
  have gra := grew_alloc w4 (.cells (hadL N (fun _ => 0)).toArray 3)
  have HGH := Lib.hid hgh
  have HBLK := Lib.hid hblk
  have NG : (N : Int) ≤ 3000 := by omega
  clear HM hblk hgh
  go_wp2
  go_loopw [8, 9] (fun iv _ wr => ∃ i : Nat, i ≤ G.length ∧ iv = .int .i64 i ∧ Blk wr gh 3 (hadL N (cov (G.take i))).toArray ∧ Grew w4 wr) (fun iv _ _ => G.length - (intOf iv).toNat)
  case atStart => exact ⟨0, Nat.zero_le _, rfl, HBLK.out, gra⟩
  case round =>
    obtain ⟨i, hi, rfl, hbk, gr⟩ := hrel
    by_cases hlt : i < G.length
    · obtain ⟨b2, rfl, hc2⟩ := HC2.out (by omega)
      obtain ⟨b3, rfl, hc3⟩ := HC3.out (by omega)
      obtain ⟨x0, x1⟩ := hc2 i hlt
      obtain ⟨y0, y1⟩ := hc3 i hlt
      have X1 := Lib.hid x1
      replace x0 := (below_ext gr) _ _ x0
      replace x1 := (below_ext gr) _ _ x1
      replace y0 := (below_ext gr) _ _ y0
      replace y1 := (below_ext gr) _ _ y1
      have hpi := HAP.out.1 G[i] (List.getElem_mem hlt)
      obtain ⟨p, hp⟩ : ∃ p, p = G[i].1 := ⟨_, rfl⟩
      obtain ⟨q, hq⟩ : ∃ q, q = G[i].2 := ⟨_, rfl⟩
      rw [← hp] at x0 y0 hpi
      rw [← hq] at x1 y1 hpi X1
      have hprev : ∀ hk : 0 < i, G[i - 1].2 < p ∧ w4.cell? ⟨b2, (i - 1) * 2 + 1, none⟩ = some (.int .i64 (G[i - 1].2 : Nat)) := fun hk =>
        ⟨by have := List.pairwise_iff_getElem.1 HAP.out.2 (i - 1) i (by omega) hlt (by omega); rw [hp]; exact this, (hc2 (i - 1) (by omega)).2⟩
      have HP := Lib.hid hp
      have HQ := Lib.hid hq
      have HPREV := Lib.hid hprev
      have z1 : (0 : Int) ≤ (i : Int) := by omega
      have z2 : (i : Int) < (G.length : Int) := by omega
      have z4 : decide (q ≤ p) = false := by simp; omega
      have z5 : decide (E < q) = false := by simp; omega
      have hpq : p < q := hpi.2.1
      have hqN : q ≤ N := by omega
      clear hc2 hc3 hp hq hprev hpi
      have hgn := gap_ne p q
      by_cases h0 : i = 0
      · subst h0
        go_wp2
        refine wp_region_quiet_lit (by kernel_rfl) (by kernel_rfl) ?_
        repeat (first | go_big_quiet_step (fail) | quiet_step (fail))
        refine wpQuiet_nil ?_
        rintro _ ⟨nq, rfl⟩
        clear hgn
        have hbq := hbk.drewN nq
        have grq : Grew w4 (wr.drewN nq) := gr.trans (Drew.grew ⟨nq, rfl⟩)
        obtain ⟨wo, hwo⟩ : ∃ wo, wo = wr.drewN nq := ⟨_, rfl⟩
        rw [← hwo] at hbq grq ⊢
        replace x0 : wo.cell? ⟨b2, 0 * 2, none⟩ = some (.int .i64 (p : Nat)) := by rw [hwo]; exact x0
        clear x1 y0 y1 hbk gr hwo
        go_wp2
        go_loopw [9] (fun kv wi => ∃ k : Nat, p ≤ k ∧ k ≤ q ∧ kv = .int .i64 k ∧ Blk wi gh 3 (hadL N (covS (G.take (0)) p k)).toArray ∧ Grew w4 wi) (fun kv _ => q - (intOf kv).toNat)
        case atStart => exact ⟨p, Nat.le_refl _, by omega, rfl, by rw [covS_start]; exact hbq, grq⟩
        case round =>
          obtain ⟨k, hk1, hk2, rfl, hbi, gri⟩ := hrel
          have x1 := (below_ext gri) _ _ X1.out
          by_cases hkq : k < q
          · obtain ⟨c0, f0, hb2⟩ := had_inc hbi hk1 (by omega)
            have hcl := covS_le (G.take (0)) p k k
            have htl : (G.take (0)).length ≤ 3001 := by rw [List.length_take]; omega
            have HB2 := Lib.hid hb2
            generalize covS (G.take (0)) p k k = C at c0 hcl HB2
            have gr2 : Grew w4 (wr.setCell ⟨gh, k, none⟩ (.int .i64 ((C : Nat) + 1))) := grew_set gri (by rw [HGH.out]; exact Nat.le_refl _) _
            have zk : (k : Int) < (N : Int) := by omega
            have zk0 : (0 : Int) ≤ (k : Int) := by omega
            have zc : (C : Int) ≤ 3002 := by omega
            clear hb2 hcl htl hbi
            go_wp2
            go_roundw
            case rel => exact ⟨k + 1, by omega, by omega, by go_num, HB2.out, gr2⟩
            case measure => simp [intOf]; omega
          · obtain rfl : k = q := by omega
            go_wp2
            go_roundw
            case rel => exact ⟨0 + 1, by omega, by go_num, by rw [List.take_succ_eq_append_getElem (by omega), ← covS_end, show (G[0]'(by omega)) = (p, k) from by rw [HP.out, HQ.out]] ; exact hbi, gri⟩
            case measure => simp [intOf]; omega
      · obtain ⟨hpv1, hpv2⟩ := HPREV.out (by omega)
        replace hpv2 := (below_ext gr) _ _ hpv2
        obtain ⟨z, hz⟩ : ∃ z, z = G[i - 1].2 := ⟨_, rfl⟩
        rw [← hz] at hpv1 hpv2
        obtain ⟨m, rfl⟩ : ∃ m, i = m + 1 := ⟨i - 1, by omega⟩
        rw [Nat.add_sub_cancel] at hpv2
        have zp : decide (p ≤ z) = false := by simp; omega
        have z9 : decide (((m : Int) + 1) > 0) = true := by simp
        have z10 : (m : Int) < (G.length : Int) := by omega
        have z11 : IntKind.i64.wrap ((m : Int) + 1 - 1) = (m : Int) := by rw [IntKind.wrap_i64]; omega
        clear hz hpv1 h0
        go_wp2
        refine wp_region_quiet_lit (by kernel_rfl) (by kernel_rfl) ?_
        repeat (first | go_big_quiet_step (fail) | quiet_step (fail))
        refine wpQuiet_nil ?_
        rintro _ ⟨nq, rfl⟩
        clear hgn
        have hbq := hbk.drewN nq
        have grq : Grew w4 (wr.drewN nq) := gr.trans (Drew.grew ⟨nq, rfl⟩)
        obtain ⟨wo, hwo⟩ : ∃ wo, wo = wr.drewN nq := ⟨_, rfl⟩
        rw [← hwo] at hbq grq ⊢
        replace x0 : wo.cell? ⟨b2, (m + 1) * 2, none⟩ = some (.int .i64 (p : Nat)) := by rw [hwo]; exact x0
        clear x1 y0 y1 hbk gr hwo z11 hpv2
        go_wp2
        go_loopw [9] (fun kv wi => ∃ k : Nat, p ≤ k ∧ k ≤ q ∧ kv = .int .i64 k ∧ Blk wi gh 3 (hadL N (covS (G.take (m + 1)) p k)).toArray ∧ Grew w4 wi) (fun kv _ => q - (intOf kv).toNat)
        case atStart => exact ⟨p, Nat.le_refl _, by omega, rfl, by rw [covS_start]; exact hbq, grq⟩
        case round =>
          obtain ⟨k, hk1, hk2, rfl, hbi, gri⟩ := hrel
          have x1 := (below_ext gri) _ _ X1.out
          by_cases hkq : k < q
          · obtain ⟨c0, f0, hb2⟩ := had_inc hbi hk1 (by omega)
            have hcl := covS_le (G.take (m + 1)) p k k
            have htl : (G.take (m + 1)).length ≤ 3001 := by rw [List.length_take]; omega
            have HB2 := Lib.hid hb2
            generalize covS (G.take (m + 1)) p k k = C at c0 hcl HB2
            have gr2 : Grew w4 (wr.setCell ⟨gh, k, none⟩ (.int .i64 ((C : Nat) + 1))) := grew_set gri (by rw [HGH.out]; exact Nat.le_refl _) _
            have zk : (k : Int) < (N : Int) := by omega
            have zk0 : (0 : Int) ≤ (k : Int) := by omega
            have zc : (C : Int) ≤ 3002 := by omega
            clear hb2 hcl htl hbi
            go_wp2
            go_roundw
            case rel => exact ⟨k + 1, by omega, by omega, by go_num, HB2.out, gr2⟩
            case measure => simp [intOf]; omega
          · obtain rfl : k = q := by omega
            go_wp2
            go_roundw
            case rel => exact ⟨m + 1 + 1, by omega, by go_num, by rw [List.take_succ_eq_append_getElem (by omega), ← covS_end, show (G[m + 1]'(by omega)) = (p, k) from by rw [HP.out, HQ.out]] ; exact hbi, gri⟩
            case measure => simp [intOf]; omega
    · obtain rfl : i = G.length := by omega
      rw [List.take_length] at hbk
      have hbk0 : Blk wr gh 3 (hadL N (cov (G ++ spans (fs.take 0)))).toArray := by
        rw [List.take_zero]; show Blk wr gh 3 (hadL N (cov (G ++ []))).toArray
        rw [List.append_nil]; exact hbk
      have HBK0 := Lib.hid hbk0
      obtain ⟨wo, hwo⟩ : ∃ wo, wo = wr := ⟨_, rfl⟩
      rw [← hwo] at HBK0 gr ⊢
      clear hbk hbk0 hwo HBLK HC2 HC3 hm gra HAP
      go_wp2
      go_loopw [10, 11] (fun iv _ wr => ∃ i : Nat, i ≤ fs.length ∧ iv = .int .i64 i ∧ Blk wr gh 3 (hadL N (cov (G ++ spans (fs.take i)))).toArray ∧ Grew w4 wr) (fun iv _ _ => fs.length - (intOf iv).toNat)
      case atStart => exact ⟨0, Nat.zero_le _, rfl, HBK0.out, gr⟩
      case round =>
        obtain ⟨i, hi, rfl, hbx, grx⟩ := hrel
        by_cases hlt : i < fs.length
        · obtain ⟨b5, o5, rfl, hc5⟩ := R4.out.cells (by omega)
          obtain ⟨y0, y1, u, y2, hbs⟩ := hc5 i hlt
          obtain ⟨ua, un, uc, rfl, hun⟩ := bs_shape hbs
          have hq := (EW.out fs[i] (List.getElem_mem hlt)).2.1
          have hspan : spans (fs.take (i + 1)) = spans (fs.take i) ++ [(fs[i].1, fs[i].1 + (un + 9))] := by
            rw [List.take_succ_eq_append_getElem hlt]
            unfold spans
            rw [List.map_append, List.map_singleton]
            unfold fend; rw [← hun.out]
          unfold fend at hq
          rw [← hun.out] at hq
          generalize fs[i].1 = s at y0 hq hspan
          have HSPAN := Lib.hid hspan
          have Y0 := Lib.hid y0
          have Y2 := Lib.hid y2
          have hsz : fsize (un : Int) = (un : Int) + 9 := by
            unfold fsize; rw [if_neg (by omega)]
          have KS := fun W => fsize_any (un : Int) W (by omega) (by omega)
          rw [hsz] at KS
          have KSH := Lib.hid KS
          obtain ⟨wp, hwp⟩ : ∃ wp, wp = wr := ⟨_, rfl⟩
          have HBX := Lib.hid hbx
          rw [← hwp] at HBX grx ⊢
          have hui : (un : Int) ≤ 3000 := by omega
          have z1 : (0 : Int) ≤ (i : Int) := by omega
          have z2 : (i : Int) < (fs.length : Int) := by omega
          clear hc5 y0 y1 y2 hbs hun hspan hsz KS hwp hbx
          go_wp2
          go_loopw [11] (fun kv wr => ∃ k : Nat, k ≤ un + 9 ∧ kv = .int .i64 k ∧ Blk wr gh 3 (hadL N (covS (G ++ spans (fs.take i)) s (s + k))).toArray ∧ Grew w4 wr) (fun kv _ => un + 9 - (intOf kv).toNat)
          case atStart => exact ⟨0, Nat.zero_le _, rfl, by rw [Nat.add_zero, covS_start]; exact HBX.out, grx⟩
          case round =>
            obtain ⟨k, hk1, rfl, hby, gry⟩ := hrel
            have y2 := (below_ext gry) _ _ Y2.out
            by_cases hku : k < un + 9
            · have y0 := (below_ext gry) _ _ Y0.out
              obtain ⟨c0, f0, hb2⟩ := had_inc hby (Nat.le_add_right _ _) (by omega)
              have hcl := covS_le (G ++ spans (fs.take i)) s (s + k) (s + k)
              have htl : (G ++ spans (fs.take i)).length ≤ 6001 := by
                rw [List.length_append]; unfold spans; rw [List.length_map, List.length_take]; omega
              have HB2 := Lib.hid hb2
              generalize covS (G ++ spans (fs.take i)) s (s + k) (s + k) = C at c0 hcl HB2
              obtain ⟨sk, hsk⟩ : ∃ sk, sk = s + k := ⟨_, rfl⟩
              have hski : (s : Int) + (k : Int) = (sk : Int) := by omega
              rw [← hsk] at c0 f0
              have gr2 : Grew w4 (wr.setCell ⟨gh, sk, none⟩ (.int .i64 ((C : Nat) + 1))) := grew_set gry (by rw [HGH.out]; exact Nat.le_refl _) _
              have zk : (sk : Int) < (N : Int) := by omega
              have zk0 : (0 : Int) ≤ (sk : Int) := by omega
              have zc : (C : Int) ≤ 6003 := by omega
              have zu : (k : Int) < (un : Int) + 9 := by omega
              have HSK := Lib.hid hsk
              clear hb2 hcl htl hby hsk hq
              go_wp2_with fail
              refine (KSH.out _).mono ?_
              rintro e w6 ⟨rfl, rfl⟩
              go_wp2
              go_roundw
              case rel => exact ⟨k + 1, by omega, by go_num, by rw [← Nat.add_assoc, ← HSK.out]; have := HB2.out; rw [← HSK.out] at this; exact this, gr2⟩
              case measure => simp [intOf]; omega
            · obtain rfl : k = un + 9 := by omega
              have zu : ¬ ((un : Int) + 9 < (un : Int) + 9) := by omega
              clear hku
              go_wp2_with fail
              refine (KSH.out _).mono ?_
              rintro e w6 ⟨rfl, rfl⟩
              go_wp2
              go_roundw
              case rel => exact ⟨i + 1, by omega, by go_num, by rw [HSPAN.out, ← List.append_assoc, ← covS_end]; exact hby, gry⟩
              case measure => simp [intOf]; omega
        · obtain rfl : i = fs.length := by omega
          rw [List.take_length] at hbx
          have hval : ∀ k, k < N → wr.cell? ⟨gh, k, none⟩ = some (.int .i64 ((if k < E then 1 else 0 : Nat) : Int)) := fun k hk => by
            rw [hbx.cell, hadL_get N _ k hk, cov_append, HAL.out]
            simp
          have HV := Lib.hid hval
          clear hval hbx HBK0
          go_wp2
          go_loop [12, 13] (fun nv kv => ∃ k : Nat, k ≤ N ∧ kv = .int .i64 k ∧ nv = .int .i64 (min k E : Nat)) (fun _ kv => N - (intOf kv).toNat)
          case atStart => exact ⟨0, Nat.zero_le _, rfl, by simp⟩
          case round =>
            obtain ⟨k, hk, rfl, rfl⟩ := hrel
            by_cases hkn : k < N
            · have hv := HV.out k hkn
              have zk : (k : Int) < (N : Int) := by omega
              by_cases hke : k < E
              · rw [if_pos hke] at hv
                replace hv : wr.cell? ⟨gh, k, none⟩ = some (.int .i64 1) := hv
                rw [Nat.min_eq_left (by omega)]
                have z1 : decide (k < E) = true := by simp; omega
                have z2 : decide (E ≤ k) = false := by simp; omega
                have HKE := Lib.hid hke
                clear hke
                go_wp2
                go_round
                case rel => exact ⟨k + 1, by omega, by go_num, by have := HKE.out; rw [Nat.min_eq_left (by omega)]; go_num⟩
                case measure => simp [intOf]; omega
              · rw [if_neg hke] at hv
                replace hv : wr.cell? ⟨gh, k, none⟩ = some (.int .i64 0) := hv
                rw [Nat.min_eq_right (by omega)]
                have z1 : decide (k < E) = false := by simp; omega
                have z2 : decide (E ≤ k) = true := by simp; omega
                have HKE := Lib.hid hke
                clear hke
                go_wp2
                go_round
                case rel => exact ⟨k + 1, by omega, by go_num, by have := HKE.out; rw [Nat.min_eq_right (by omega)]⟩
                case measure => simp [intOf]; omega
            · obtain rfl : k = N := by omega
              rw [Nat.min_eq_right (by omega)]
              go_wp2
              go_ret
              exact ⟨ret_bool (by simp), g1.trans (g2.trans (g3.trans (g4.trans grx)))⟩
end Go.Proofs.Ythjfgefkahgenaa
