/- rescripttop.awakeFrames holds; the law WholeSplit returns true: its walk. -/
import Derived.Test.YtigaanedkobokaaFrV
namespace Go.Proofs.Ytigaanedkobokaa
open Go Go.RowKit Go.Shelf

theorem aw_walk : walkL false ([0] ++ fput (3, [1])) 0 = ([(1, (3, [1]))], 1, 11) := by decide +kernel
theorem aw_len : (fput (3, [1])).length = 10 := by decide +kernel

set_option maxRecDepth 100000 in
set_option maxHeartbeats 4000000 in
theorem awakeF_any (w : World) : Calls Try.prog 31 #[] w fun e w' => e = .returned (.bool true) ∧ Grew w w' := by
  go_enter Try.func31, Try.ntmps31
  go_wp2_with fail
  refine (fput_any (3, [1]) _ _ (bs_lit w [1] #[.int .u8 1] 1 rfl rfl (by omega)) (by decide)).mono ?_
  rintro e w1 ⟨v1, rfl, h1, g1⟩
  have q1 := Sl.of_own h1
  have G1 := (grew_alloc w (.cells #[.int .u8 1] 5)).trans g1
  obtain ⟨a1, n1, c1, rfl, hn1⟩ := bs_shape q1
  clear h1
  have gA := grew_alloc w1 (.cells #[.int .u8 0] 5)
  have q2 := q1.grew gA
  have ho : OwnB (w1.alloc (.cells #[.int .u8 0] 5)) w.heap.size (.slice (some ⟨w1.heap.size, 0, none⟩) 1 1) [0] := World.ownsRow_lit w1 #[.int .u8 0] 1 G1.size (by unfold maxLen; omega) rfl
  have HO := Lib.hid ho
  have HQ := Lib.hid q2
  clear q1 ho q2
  go_wp2_with (at_builtin; refine wpList_push rfl _ _ rfl w.heap.size _ [0] rfl HO.out _ rfl (fput (3, [1])) HQ.out (by rw [aw_len]; decide) (by have := (G1.trans gA).size; exact this) ?_; intro v2 w2 hown2 hB2 _; obtain ⟨a2, n2, c2, rfl, hn2⟩ := bs_shape (Sl.of_own hown2))
  have G2 := Below.trans (G1.trans gA) hB2
  have k3 := all_any _ _ _ (Sl.of_own hown2) (by rw [List.length_append, aw_len]; decide)
  rw [aw_walk] at k3
  refine k3.mono ?_
  clear k3 hown2
  rintro e w3 ⟨v3, rfl, h3, g3⟩
  obtain ⟨a3, n3, c3, rfl, rfl, -, -⟩ := h3.shape
  obtain ⟨b, o, rfl, hcl⟩ := h3.frs.cells (by decide)
  obtain ⟨x0, -, -⟩ := hcl 0 (by decide)
  simp only [Nat.zero_mul, Nat.add_zero, List.getElem_cons_zero] at x0
  replace x0 : w3.cell? ⟨b, o, none⟩ = some (.int .i64 1) := x0
  have G3 : Grew w w3 := Grew.trans G2 g3
  clear hcl h3
  go_wp2
  go_ret
  exact ⟨rfl, G3⟩
set_option maxRecDepth 100000 in
set_option maxHeartbeats 8000000 in
theorem split_walk (l m : List UInt8) (v u : Value) (w : World) (hb : Bs w v l) (hc : Bs w u m) :
    Calls Try.prog 8 #[v, u] w fun e w' => e = .returned (.bool true) ∧ Grew w w' := by
  obtain ⟨a, c, rfl, h1, h2, -, -⟩ := hb.open
  obtain ⟨a', c', rfl, h1', h2', -, -⟩ := hc.open
  unfold maxLen at h2 h2'
  by_cases hl : 2000 < l.length
  · clear hb hc
    go_enter Try.func8, Try.ntmps8
    go_wp2_with fail
    refine (awakeF_any _).mono ?_
    rintro e w1 ⟨rfl, g1⟩
    go_wp2
    go_ret
    exact ⟨rfl, g1⟩
  have hl' : l.length ≤ 2000 := by omega
  by_cases hm : 2000 < m.length
  · clear hb hc hl
    go_enter Try.func8, Try.ntmps8
    go_wp2_with fail
    refine (awakeF_any _).mono ?_
    rintro e w1 ⟨rfl, g1⟩
    go_wp2
    go_ret
    exact ⟨rfl, g1⟩
  have hm' : m.length ≤ 2000 := by omega
  have HB := Lib.hid hb
  have HC := Lib.hid hc
  clear hl hm hb hc
  go_enter Try.func8, Try.ntmps8
  go_wp2_with fail
  refine (awakeF_any _).mono ?_
  rintro e w1 ⟨rfl, g1⟩
  have B1 := Lib.hid (HB.out.grew g1)
  have C1 := Lib.hid (HC.out.grew g1)
  go_wp2_with fail
  have hfr := (walk_from false l 0).2.1
  refine (all_any l _ _ B1.out (by omega)).mono ?_
  rintro e w2 ⟨v2, rfl, r2, g2⟩
  have G2 := g1.trans g2
  obtain ⟨a2, n2, c2, rfl, en2, t2, s2⟩ := r2.shape
  by_cases hF : (walkL false l 0).2.2 < l.length
  · generalize (walkL false l 0).2.2 = F at hF hfr ⊢
    clear r2
    have EN := Lib.hid en2
    clear en2
    go_wp2
    go_ret
    exact ⟨rfl, G2⟩
  have hFe : (walkL false l 0).2.2 = l.length := by omega
  have hwa := walk_append m l 0
  rw [Nat.sub_zero, hFe, List.drop_left, show l.length = 0 + l.length by omega, walk_shift] at hwa
  rw [hFe]
  clear hF hfr
  have hA1 : (walkL false (l ++ m) 0).1 = (walkL false l 0).1 ++ (walkL false m 0).1.map (fun x => (x.1 + l.length, x.2)) := by rw [hwa]
  have hA2 : (walkL false (l ++ m) 0).2.2 = (walkL false m 0).2.2 + l.length := by rw [hwa]
  generalize (walkL false l 0).1 = fs at r2 hA1 en2
  have HA1 := Lib.hid hA1
  have HA2 := Lib.hid hA2
  have R2 := Lib.hid r2.frs
  have B2 := Lib.hid (B1.out.grew g2)
  have C2 := Lib.hid (C1.out.grew g2)
  clear hwa hA1 hA2 hFe r2
  subst en2
  go_wp2_with fail
  have k3 := all_any m _ _ C2.out (by omega)
  obtain ⟨ms, hms⟩ : ∃ ms, ms = (walkL false m 0).1 := ⟨_, rfl⟩
  obtain ⟨F, hF⟩ : ∃ F, F = (walkL false m 0).2.2 := ⟨_, rfl⟩
  have hfr2 := (walk_from false m 0).2.1
  have hat2 := fun x hx => ((walk_at false m 0).1 x hx).2.1
  rw [← hF] at hfr2 hat2
  rw [← hms] at hat2
  rw [← hms, ← hF] at k3
  rw [← hms] at HA1
  rw [← hF] at HA2
  have HAT := Lib.hid hat2
  refine k3.mono ?_
  clear k3 hms hF hat2
  rintro e w3 ⟨v3, rfl, r3, g3⟩
  have G3 := G2.trans g3
  obtain ⟨a3, n3, c3, rfl, rfl, t3, s3⟩ := r3.shape
  have R3 := Lib.hid r3.frs
  have R2b := Lib.hid (R2.out.grew g3)
  have B3 := Lib.hid (B2.out.grew g3)
  have C3 := Lib.hid (C2.out.grew g3)
  clear r3
  go_wp2_with fail
  refine (join_any l m _ _ _ B3.out C3.out (by omega)).mono ?_
  rintro e w4 ⟨v4, rfl, o4, g4⟩
  have b4 := Sl.of_own o4
  obtain ⟨a4, n4, c4, rfl, hn4⟩ := bs_shape b4
  have B4 := Lib.hid b4
  have G4 := G3.trans g4
  clear o4 b4
  go_wp2_with fail
  have k5 := all_any (l ++ m) _ _ B4.out (by rw [List.length_append]; omega)
  rw [HA1.out, HA2.out] at k5
  obtain ⟨gs, hgs⟩ : ∃ gs, gs = fs ++ ms.map (fun x => (x.1 + l.length, x.2)) := ⟨_, rfl⟩
  rw [← hgs] at k5
  have hgl : gs.length = fs.length + ms.length := by rw [hgs]; simp
  have HGS := Lib.hid hgs
  refine k5.mono ?_
  clear k5 hgs
  rintro e w5 ⟨v5, rfl, r5, g5⟩
  obtain ⟨a5, n5, c5, rfl, en5, t5, s5⟩ := r5.shape
  have G5 := G4.trans g5
  have R5 := Lib.hid r5.frs
  have R3c := Lib.hid ((R3.out.grew g4).grew g5)
  have R2c := Lib.hid ((R2b.out.grew g4).grew g5)
  have e1 : ((n5 : Int) != (fs.length : Int) + (ms.length : Int)) = false := by rw [en5, hgl]; simp
  have e2 : (((F + l.length : Nat) : Int) != (l.length : Int) + (F : Int)) = false := by simp; omega
  have hfm : (fs.length : Int) + (ms.length : Int) ≤ 9223372036854775807 := by omega
  push_cast at e2
  have hn5 : n5 = fs.length + ms.length := by omega
  have HN5 := Lib.hid hn5
  clear r5 en5 hn5
  push_cast
  go_wp2
  go_loopw [11] (fun i wr => (∃ k : Nat, k ≤ n5 ∧ i = .int .i64 k) ∧ Grew w5 wr) (fun i _ => n5 - (intOf i).toNat)
  case atStart => exact ⟨⟨0, Nat.zero_le _, rfl⟩, Below.refl _ _⟩
  case round =>
    obtain ⟨⟨k, hk, rfl⟩, gr⟩ := hrel
    by_cases hlt : k < n5
    · have hn := HN5.out
      have hkg : k < gs.length := by rw [hgl]; omega
      obtain ⟨b1, o1, rfl, hc1⟩ := R5.out.cells (by omega)
      obtain ⟨x0, x1, ru, x2, x3⟩ := hc1 k hkg
      replace x0 := (below_ext gr) _ _ x0
      replace x1 := (below_ext gr) _ _ x1
      replace x2 := (below_ext gr) _ _ x2
      replace x3 := x3.grew gr
      obtain ⟨ra1, ra2, ra3, rfl, -⟩ := bs_shape x3
      have z0 : (0 : Int) ≤ (k : Int) := by omega
      have z1 : (k : Int) < (n5 : Int) := by omega
      have gD : Grew wr wr.drew := Drew.grew ⟨1, rfl⟩
      by_cases hkf : k < fs.length
      · have hgk : gs[k] = fs[k] := by simp only [HGS.out]; exact List.getElem_append_left hkf
        obtain ⟨b2, o2, rfl, hc2⟩ := R2c.out.cells (by omega)
        obtain ⟨y0, y1, su, y2, y3⟩ := hc2 k hkf
        replace y0 := (below_ext gr) _ _ y0
        replace y1 := (below_ext gr) _ _ y1
        replace y2 := (below_ext gr) _ _ y2
        replace y3 := y3.grew gr
        obtain ⟨sa1, sa2, sa3, rfl, -⟩ := bs_shape y3
        rw [hgk] at x0 x1 x3
        generalize fs[k].1 = p at x0 y0
        generalize fs[k].2 = f at x1 x3 y1 y3
        have kc := frsame_any f f _ _ wr.drew (x3.grew gD) (y3.grew gD)
        have hpp : ((p : Int) != (p : Int)) = false := by simp
        have hff : (f == f) = true := by simp
        have z2 : (k : Int) < (fs.length : Int) := by omega
        have z3 : decide ((k : Int) < (fs.length : Int)) = true := by simp; omega
        have z4 : decide ((k : Int) ≥ (fs.length : Int)) = false := by simp; omega
        have z4b : decide ((fs.length : Int) ≤ (k : Int)) = false := by simp; omega
        have z4c : decide (fs.length ≤ k) = false := by simp; omega
        rw [hff] at kc
        have KC := Lib.hid kc
        clear hgk hc1 hc2 x3 y3 kc hkg hff hn
        go_wp2
        go_region_held3 (fun W => W.cell? ⟨b1, o1 + k * 3, none⟩ = some (.int .i64 (p : Nat)) ∧ W.cell? ⟨b1, o1 + k * 3 + 1, none⟩ = some (.int .u8 (f.1.toNat : Int)) ∧ W.cell? ⟨b1, o1 + k * 3 + 2, none⟩ = some (.slice ra1 ra2 ra3) ∧ W.cell? ⟨b2, o2 + k * 3, none⟩ = some (.int .i64 (p : Nat)) ∧ W.cell? ⟨b2, o2 + k * 3 + 1, none⟩ = some (.int .u8 (f.1.toNat : Int)) ∧ W.cell? ⟨b2, o2 + k * 3 + 2, none⟩ = some (.slice sa1 sa2 sa3))
          (first | go_keep | exact ⟨j0, j1, j2, j3, j4, j5⟩) ((go_at_call 28; refine KC.out.mono ?_; rintro e6 W6 ⟨rfl, g6⟩; have j0 := (below_ext g6) _ _ x0; have j1 := (below_ext g6) _ _ x1; have j2 := (below_ext g6) _ _ x2; have j3 := (below_ext g6) _ _ y0; have j4 := (below_ext g6) _ _ y1; have j5 := (below_ext g6) _ _ y2))
        go_wp2
        go_quiet (fail)
        go_wp2
        go_roundw
        case rel => exact ⟨⟨k + 1, by omega, by go_num⟩, ((gr.trans gD).trans g6).trans (Drew.grew ⟨_, rfl⟩)⟩
        case measure => simp [intOf]; omega
      · obtain ⟨j, rfl⟩ : ∃ j, k = fs.length + j := ⟨k - fs.length, by omega⟩
        have hjm : j < ms.length := by omega
        have hgk : gs[fs.length + j] = (ms[j].1 + l.length, ms[j].2) := by
          simp only [HGS.out]; rw [List.getElem_append_right (by omega)]; simp
        obtain ⟨b2, o2, rfl, hc2⟩ := R3c.out.cells (by omega)
        obtain ⟨y0, y1, su, y2, y3⟩ := hc2 j hjm
        replace y0 := (below_ext gr) _ _ y0
        replace y1 := (below_ext gr) _ _ y1
        replace y2 := (below_ext gr) _ _ y2
        replace y3 := y3.grew gr
        obtain ⟨sa1, sa2, sa3, rfl, -⟩ := bs_shape y3
        rw [hgk] at x0 x1 x3
        have hpe := HAT.out ms[j] (List.getElem_mem hjm)
        unfold fend at hpe
        generalize ms[j].1 = q at x0 y0 hpe
        generalize ms[j].2 = f at x1 x3 y1 y3 hpe
        have kc : ∀ W, Grew wr W → _ := fun W hW => frsame_any f f _ _ W (x3.grew hW) (y3.grew hW)
        have hff : (f == f) = true := by simp
        simp only [hff] at kc
        have KC := Lib.hid kc
        obtain ⟨p, hp⟩ : ∃ p, p = q + l.length := ⟨_, rfl⟩
        rw [← hp] at x0
        have hpp : ((p : Int) != (l.length : Int) + (q : Int)) = false := by simp; omega
        have hpb : (l.length : Int) + (q : Int) ≤ 4000 := by omega
        obtain ⟨k, hke⟩ : ∃ k, k = fs.length + j := ⟨_, rfl⟩
        rw [← hke] at x0 x1 x2 z0 z1 hlt hk ⊢
        have hki : (k : Int) - (fs.length : Int) = (j : Int) := by omega
        have z2 : (j : Int) < (ms.length : Int) := by omega
        have z5 : (0 : Int) ≤ (j : Int) := by omega
        have z3 : decide ((k : Int) < (fs.length : Int)) = false := by simp; omega
        have z3c : decide (k < fs.length) = false := by simp; omega
        have z4 : decide ((k : Int) ≥ (fs.length : Int)) = true := by simp; omega
        have z6 : (fs.length : Int) ≤ (k : Int) := by omega
        have z7 : IntKind.i64.wrap ((k : Int) - (fs.length : Int)) = (k : Int) - (fs.length : Int) := by rw [IntKind.wrap_i64]; omega
        have z10 : (0 : Int) ≤ (k : Int) - (fs.length : Int) := by omega
        have z11 : (k : Int) - (fs.length : Int) < (ms.length : Int) := by omega
        have z12 : ((k : Int) - (fs.length : Int)).toNat = j := by omega
        have z8 : IntKind.i64.wrap ((l.length : Int) + (q : Int)) = (l.length : Int) + (q : Int) := by rw [IntKind.wrap_i64]; omega
        clear hgk hc1 hc2 x3 y3 kc hkg hff hn hp hke hpe hki
        go_wp2
        go_quiet (fail)
        have g8 : Grew wr (wr.drewN nq) := Drew.grew ⟨_, rfl⟩
        generalize wr.drewN nq = w8 at g8 ⊢
        have gD2 : Grew w8 w8.drew := Drew.grew ⟨1, rfl⟩
        replace x0 := (below_ext g8) _ _ x0
        replace x1 := (below_ext g8) _ _ x1
        replace x2 := (below_ext g8) _ _ x2
        replace y0 := (below_ext g8) _ _ y0
        replace y1 := (below_ext g8) _ _ y1
        replace y2 := (below_ext g8) _ _ y2
        go_wp2
        go_region_held3 (fun W => W.cell? ⟨b1, o1 + k * 3, none⟩ = some (.int .i64 (p : Nat)) ∧ W.cell? ⟨b1, o1 + k * 3 + 1, none⟩ = some (.int .u8 (f.1.toNat : Int)) ∧ W.cell? ⟨b1, o1 + k * 3 + 2, none⟩ = some (.slice ra1 ra2 ra3) ∧ W.cell? ⟨b2, o2 + j * 3, none⟩ = some (.int .i64 (q : Nat)) ∧ W.cell? ⟨b2, o2 + j * 3 + 1, none⟩ = some (.int .u8 (f.1.toNat : Int)) ∧ W.cell? ⟨b2, o2 + j * 3 + 2, none⟩ = some (.slice sa1 sa2 sa3))
          (first | go_keep | exact ⟨j0, j1, j2, j3, j4, j5⟩) ((go_at_call 28; refine (KC.out w8.drew (g8.trans gD2)).mono ?_; rintro e6 W6 ⟨rfl, g6⟩; have j0 := (below_ext g6) _ _ x0; have j1 := (below_ext g6) _ _ x1; have j2 := (below_ext g6) _ _ x2; have j3 := (below_ext g6) _ _ y0; have j4 := (below_ext g6) _ _ y1; have j5 := (below_ext g6) _ _ y2))
        go_wp2
        go_roundw
        case rel => exact ⟨⟨k + 1, by omega, by go_num⟩, ((gr.trans g8).trans gD2).trans g6⟩
        case measure => simp [intOf]; omega
    · obtain rfl : k = n5 := by omega
      go_wp2
      go_ret
      exact ⟨rfl, G5.trans gr⟩
end Go.Proofs.Ytigaanedkobokaa
