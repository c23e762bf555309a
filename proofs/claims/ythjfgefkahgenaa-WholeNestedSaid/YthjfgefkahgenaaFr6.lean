/- The law WholeNested returns true: its walk. -/
import Derived.Test.YthjfgefkahgenaaFr4
namespace Go.Proofs.Ythjfgefkahgenaa
open Go Go.RowKit Go.Shelf

/-! a frame within a frame, in plain words -/
def nestF (f : Frm) (o : UInt8) : Frm := (o, fput f)
theorem nest_len (f : Frm) (o : UInt8) : (fput (nestF f o)).length = f.2.length + 18 := by rw [fput_length]; simp [nestF, fput_length]
theorem nest_bytes (f : Frm) (o : UInt8) : ∃ t, fput (nestF f o) = [197, 154, o, UInt8.ofNat ((f.2.length + 9) % 256), UInt8.ofNat ((f.2.length + 9) / 256)] ++ (fput f ++ t) := by
  refine ⟨le32 (csum (fhead (nestF f o) ++ (nestF f o).2)), ?_⟩
  have e : fhead (nestF f o) = [o, UInt8.ofNat ((f.2.length + 9) % 256), UInt8.ofNat ((f.2.length + 9) / 256)] := by simp only [fhead, nestF, fput_length]
  have e2 : fput (nestF f o) = [197, 154] ++ (fhead (nestF f o) ++ fput f ++ le32 (csum (fhead (nestF f o) ++ (nestF f o).2))) := rfl
  rw [e2, e]
  simp
theorem nest_walk (f : Frm) (o : UInt8) (h : f.2.length ≤ 500) : walkL false (fput (nestF f o)) 0 = ([(0, nestF f o)], 0, f.2.length + 18) := by
  have hl : (nestF f o).2.length = f.2.length + 9 := by simp [nestF, fput_length]
  obtain ⟨h1, h2, h3⟩ := fput_read0 (nestF f o) (by omega)
  rw [walkL_ok 0 h1, h2, h3, hl, List.drop_of_length_le (by rw [nest_len]; omega), walkL_nil]
  simp
theorem nest_whole (f : Frm) (o : UInt8) (h : f.2.length ≤ 500) : 0 ∈ wholeN (fput (nestF f o)) (f.2.length + 18) ∧ 5 ∈ wholeN (fput (nestF f o)) (f.2.length + 18) := by
  obtain ⟨h1, -, -⟩ := fput_read0 (nestF f o) (by simp [nestF, fput_length]; omega)
  obtain ⟨t, ht⟩ := nest_bytes f o
  have h2 := (fput_read f t (by omega)).1
  refine ⟨List.mem_filter.2 ⟨List.mem_range.2 (by omega), by simpa using h1⟩, List.mem_filter.2 ⟨List.mem_range.2 (by omega), ?_⟩⟩
  rw [ht]
  simpa using h2
/-- spoilt at its first byte -/
theorem nest_spoilt (f : Frm) (o : UInt8) (h : f.2.length ≤ 500) (ho : o ≠ 197) (hn : (f.2.length + 9) % 256 ≠ 197) :
    ∃ r, (walkL false ((fput (nestF f o)).set 0 0) 0).1 = (5, f) :: r := by
  obtain ⟨t, ht⟩ := nest_bytes f o
  obtain ⟨h1, h2, h3⟩ := fput_read f t (by omega)
  have hs : (fput (nestF f o)).set 0 0 = [0, 154, o, UInt8.ofNat ((f.2.length + 9) % 256), UInt8.ofNat ((f.2.length + 9) / 256)] ++ (fput f ++ t) := by rw [ht]; rfl
  rw [hs, walk_junk]
  · show ∃ r, (walkL false (fput f ++ t) 5).1 = (5, f) :: r
    rw [walkL_ok 5 h1, h2]
    exact ⟨_, rfl⟩
  · have key : ∀ (x : UInt8) (r : List UInt8), x.toNat ≠ 197 → ferr (x :: r) = 3 := by
      intro x r hx
      unfold ferr
      rw [if_pos (.inl ⟨by simp, hx⟩)]
    have e3 : (UInt8.ofNat ((f.2.length + 9) % 256)).toNat ≠ 197 := by rw [UInt8.toNat_ofNat']; omega
    have e4 : (UInt8.ofNat ((f.2.length + 9) / 256)).toNat ≠ 197 := by rw [UInt8.toNat_ofNat']; omega
    have e2 : o.toNat ≠ 197 := fun e => ho (UInt8.toNat_inj.1 e)
    intro i hi
    have : i = 0 ∨ i = 1 ∨ i = 2 ∨ i = 3 ∨ i = 4 := by simp at hi; omega
    rcases this with rfl | rfl | rfl | rfl | rfl
    · simp only [List.cons_append, List.nil_append, List.drop_zero]; rw [key 0 _ (by decide)]; decide
    · simp only [List.cons_append, List.nil_append, List.drop_succ_cons, List.drop_zero]; rw [key 154 _ (by decide)]; decide
    · simp only [List.cons_append, List.nil_append, List.drop_succ_cons, List.drop_zero]; rw [key o _ e2]; decide
    · simp only [List.cons_append, List.nil_append, List.drop_succ_cons, List.drop_zero]; rw [key _ _ e3]; decide
    · simp only [List.cons_append, List.nil_append, List.drop_succ_cons, List.drop_zero]; rw [key _ _ e4]; decide

theorem tstands_any (l : List Nat) (p : Nat) (v : Value) (base : Nat) (w : World) (hb : OwnI w base v l) :
    Calls Try.prog 36 #[v, .int .i64 p] w fun e w' => e = .returned (.bool (decide (p ∈ l))) ∧ w = w' := by
  obtain ⟨a, n, c, rfl, en, h1, h2, hc⟩ := hb.open
  subst en
  have HC := Lib.hid hc
  clear hc hb
  go_enter Try.func36, Try.ntmps36
  go_wp2
  go_loop [5] (fun i => ∃ k : Nat, k ≤ l.length ∧ i = .int .i64 k ∧ RowKit.Hid (¬ p ∈ l.take k)) (fun i => l.length - (intOf i).toNat)
  case atStart => exact ⟨0, Nat.zero_le _, rfl, by show ¬ _; simp⟩
  case round =>
    obtain ⟨k, hk, rfl, hI⟩ := hrel
    by_cases hlt : k < l.length
    · obtain ⟨b, o, rfl, hcl⟩ := HC.out (by omega)
      have x := hcl k hlt
      have hs := List.take_succ_eq_append_getElem hlt
      have hm := List.getElem_mem hlt
      generalize l[k] = m at x hs hm
      have HS := Lib.hid hs
      have HM := Lib.hid hm
      have q := i64_eqN m p
      clear hcl hs hm
      by_cases e : m = p
      · have q1 : ((m : Int) == (p : Int)) = true := by rw [q]; simp [e]
        have HE := Lib.hid e
        clear q e
        go_wp2
        go_ret
        refine ⟨ret_bool ?_, rfl⟩
        have h1 := HM.out
        rw [HE.out] at h1
        exact (decide_eq_true h1).symm
      · have q1 : ((m : Int) == (p : Int)) = false := by rw [q]; simp [e]
        have HE := Lib.hid e
        clear q e
        go_wp2
        go_round
        case rel => exact ⟨k + 1, by omega, by go_num, by show ¬ _; rw [HS.out, List.mem_append]; exact fun h => h.elim hI.out (fun h => HE.out (List.mem_singleton.1 h).symm)⟩
        case measure => simp [intOf]; omega
    · obtain rfl : k = l.length := by omega
      rw [List.take_length] at hI
      go_wp2
      go_ret
      exact ⟨ret_bool (decide_eq_false hI.out).symm, rfl⟩
/-- a byte of a row of the call's own is set -/
theorem ownB_open {W : World} {base : Nat} {v : Value} {l : List UInt8} (h : OwnB W base v l) (hl : 0 < l.length) : ∃ g cap, v = .slice (some ⟨g, 0, none⟩) l.length cap ∧ base ≤ g ∧ g < W.heap.size ∧ l.length ≤ cap ∧ cap ≤ 9223372036854775807 ∧
    ∀ i (hi : i < l.length), W.cell? ⟨g, i, none⟩ = some (.int .u8 (l[i].toNat : Int)) ∧ W.frozen? ⟨g, i, none⟩ = false ∧ ∀ x : UInt8, OwnB (W.setCell ⟨g, i, none⟩ (.int .u8 (x.toNat : Int))) base v (l.set i x) := by
  obtain ⟨hlen, h⟩ := h
  rcases h with ⟨rfl, h0⟩ | ⟨g, cap, cur, rfl, hb, hg, hn, hc, hs, ht⟩
  · omega
  · have hB : Blk W g 5 cur := hg
    unfold maxLen at hc
    refine ⟨g, cap, rfl, hb, hB.lt, hn, by omega, fun i hi => ⟨?_, hB.frozen i, fun x => ?_⟩⟩
    · rw [hB.cell]
      have := bv_get l i hi
      rw [← ht, List.getElem?_take_of_lt (by omega)] at this
      simpa using this
    · have hB2 := hB.set i (.int .u8 (x.toNat : Int))
      refine ⟨by simp, .inr ⟨g, cap, _, by rw [List.length_set], hb, hB2, by rw [List.length_set]; exact hn, by unfold maxLen; omega, by simpa using hs, ?_⟩⟩
      rw [List.length_set]
      rw [Array.toList_setIfInBounds, List.take_set, ht]
      simp [bv, List.map_set]

set_option maxRecDepth 100000 in
set_option maxHeartbeats 8000000 in
theorem nested_walk (f : Frm) (o : UInt8) (v : Value) (w : World) (hb : Bs w v f.2) :
    Calls Try.prog 9 #[frV f.1 v, .int .u8 (o.toNat : Int)] w fun e w' => e = .returned (.bool true) ∧ Grew w w' := by
  obtain ⟨a, N, c, rfl, hn⟩ := bs_shape hb
  have hcap : N ≤ 9223372036854775807 := by obtain ⟨_, _, e, h1, h2, _⟩ := hb.open; cases e; unfold maxLen at h2; omega
  have k0 := Blk.new w 33 #[.int .u8 (f.1.toNat : Int), .slice a N c]
  have g0 := grew_alloc w (.cells #[.int .u8 (f.1.toNat : Int), .slice a N c] 33)
  have HB := Lib.hid hb
  have hu := u8lt f.1
  have huo := u8lt o
  by_cases hl : 500 < N
  · have hl1 : decide ((N : Int) > 500) = true := by simp; omega
    clear hb hl
    go_enter Try.func9, Try.ntmps9
    go_wp2_with fail
    refine (awakeF_any _).mono ?_
    rintro e w1 ⟨rfl, g1⟩
    have k1 := k0.grew g1
    obtain ⟨x0, x1, x2, x3⟩ := cells2 k1
    go_wp2
    go_ret
    exact ⟨rfl, g0.trans g1⟩
  have hl' : f.2.length ≤ 500 := by rw [← hn.out]; omega
  have hl1 : decide ((N : Int) > 500) = false := by simp; omega
  have NW := Lib.hid (nest_walk f o hl')
  have NL := Lib.hid (nest_len f o)
  have NH := Lib.hid (nest_whole f o hl')
  have HL := Lib.hid hl'
  clear hb hl
  go_enter Try.func9, Try.ntmps9
  go_wp2_with fail
  refine (awakeF_any _).mono ?_
  rintro e w1 ⟨rfl, g1⟩
  have K1 := Lib.hid (k0.grew g1)
  obtain ⟨x0, x1, x2, x3⟩ := cells2 K1.out
  have G1 := g0.trans g1
  have B1 := Lib.hid (HB.out.grew G1)
  clear k0
  go_wp2_with fail
  refine (fput_any f _ _ B1.out (by have := HL.out; omega)).mono ?_
  rintro e w2 ⟨v2, rfl, r2, g2⟩
  have s2 := Sl.of_own r2
  obtain ⟨a2, n2, c2, rfl, hn2⟩ := bs_shape s2
  have S2 := Lib.hid s2
  have G2 := G1.trans g2
  have K2 := Lib.hid (K1.out.grew g2)
  clear x0 x1 x2 x3 s2 r2
  go_wp2_with fail
  have k3 := fput_any (nestF f o) (.slice a2 n2 c2) w2 S2.out (by have := HL.out; simp only [nestF, fput_length]; omega)
  have hL : (fput (nestF f o)).length = f.2.length + 18 := NL.out
  obtain ⟨L, hLL⟩ : ∃ L, L = fput (nestF f o) := ⟨_, rfl⟩
  rw [← hLL] at k3 hL
  have HLL := Lib.hid hLL
  have HLN := Lib.hid hL
  refine k3.mono ?_
  clear k3 hLL hL
  rintro e w3 ⟨v3, rfl, r3, g3⟩
  have K3 := Lib.hid (K2.out.grew g3)
  have G3 := G2.trans g3
  obtain ⟨g, c3, rfl, q1, q2, q3, q4, hset⟩ := ownB_open r3 (by have := HLN.out; omega)
  have R3 := Lib.hid r3
  have HSET := Lib.hid hset
  have hN : N = f.2.length := hn.out
  have hLN : L.length = N + 18 := by rw [HLN.out, hN]
  rw [hLN] at q3 ⊢
  have hn2' : n2 = N + 9 := by rw [hn2.out, fput_length, hN]
  subst hn2'
  have HN := Lib.hid hN
  have HLN2 := Lib.hid hLN
  have hN5 : N ≤ 500 := by rw [hN]; exact HL.out
  clear r3 hset hN hLN
  go_wp2_with fail
  have hb3 : Bs w3 (.slice (some ⟨g, 0, none⟩) (N + 18) c3) L := by
    have h := Sl.of_own R3.out
    show Sl w3 (.slice (some ⟨g, 0, none⟩) (N + 18) c3) L.length 1 (bv L)
    rw [← HLN2.out]; exact h
  have nw : walkL false L 0 = ([(0, nestF f o)], 0, N + 18) := by rw [HLL.out, NW.out, HN.out]
  have nh : 0 ∈ wholeN L L.length ∧ 5 ∈ wholeN L L.length := by rw [HLN2.out, HLL.out, HN.out]; exact NH.out
  have NH2 := Lib.hid nh
  have HB3 := Lib.hid hb3
  have k4 := all_any L _ _ hb3 (by rw [HLN2.out]; omega)
  rw [nw] at k4
  refine k4.mono ?_
  clear k4 nw nh hb3
  rintro e w4 ⟨v4, rfl, r4, g4⟩
  obtain ⟨a4, n4, c4, rfl, rfl, -, -⟩ := r4.shape
  obtain ⟨b4, o4, rfl, hc4⟩ := r4.frs.cells (by simp)
  obtain ⟨y0, y1, -⟩ := hc4 0 (by simp)
  simp only [Nat.zero_mul, Nat.add_zero, List.getElem_cons_zero] at y0 y1
  replace y0 : w4.cell? ⟨b4, o4, none⟩ = some (.int .i64 0) := y0
  replace y1 : w4.cell? ⟨b4, o4 + 1, none⟩ = some (.int .u8 (o.toNat : Int)) := y1
  have G4 := G3.trans g4
  have K4 := Lib.hid (K3.out.grew g4)
  have B4 := Lib.hid (HB3.out.grew g4)
  have R4 := Lib.hid (own_grew R3.out g4)
  clear r4 hc4
  go_wp2_with fail
  refine (whole_any L _ _ B4.out (by rw [HLN2.out]; omega)).mono ?_
  rintro e w5 ⟨v5, rfl, r5, g5⟩
  obtain ⟨a5, n5, c5, rfl, en5⟩ := r5.shape
  have R5 := Lib.hid r5
  have EN5 := Lib.hid en5
  have G5 := G4.trans g5
  have K5 := Lib.hid (K4.out.grew g5)
  have B5 := Lib.hid (B4.out.grew g5)
  have R4b := Lib.hid (own_grew R4.out g5)
  replace y0 := (below_ext g5) _ _ y0
  replace y1 := (below_ext g5) _ _ y1
  have hoo : ((o.toNat : Int) != (o.toNat : Int)) = false := by simp
  clear r5 en5
  go_wp2_with fail
  have k6 := tstands_any _ 0 _ _ _ R5.out
  rw [decide_eq_true NH2.out.1] at k6
  refine k6.mono ?_
  clear k6
  rintro e w6 ⟨rfl, rfl⟩
  go_wp2_with fail
  have k6 := tstands_any _ 5 _ _ _ R5.out
  rw [decide_eq_true NH2.out.2] at k6
  refine k6.mono ?_
  clear k6
  rintro e w6 ⟨rfl, rfl⟩
  clear y0 y1
  have ho1 : ((o.toNat : Int) == 197) = (o == 197) := u8_eq o 197
  by_cases hc1 : o = 197
  · have e1 : ((o.toNat : Int) == 197) = true := by rw [ho1, hc1]; rfl
    clear ho1 hc1
    go_wp2
    go_ret
    exact ⟨rfl, G5⟩
  have e1 : ((o.toNat : Int) == 197) = false := by rw [ho1]; simpa using hc1
  by_cases hc2 : (N + 9) % 256 = 197
  · have e2 : (((N : Int) + 9) % 256 == 197) = true := by simp; omega
    clear ho1 hc1 hc2
    go_wp2
    go_ret
    exact ⟨rfl, G5⟩
  have e2 : (((N : Int) + 9) % 256 == 197) = false := by simp; omega
  obtain ⟨r, hr⟩ := nest_spoilt f o HL.out hc1 (by rw [← HN.out]; exact hc2)
  rw [← HLL.out] at hr
  have HR := Lib.hid hr
  obtain ⟨-, -, -⟩ := HSET.out 0 (by rw [HLN2.out]; omega)
  obtain ⟨g', c3', eg, q1', q2', -, -, hset'⟩ := ownB_open R4b.out (by rw [HLN2.out]; omega)
  cases eg
  obtain ⟨t0, t1, t2⟩ := hset' 0 (by rw [HLN2.out]; omega)
  have hs := t2 0
  have HS := Lib.hid hs
  have hu0 := u8lt (L[0]'(by rw [HLN2.out]; omega))
  clear ho1 hc1 hc2 hr hset' t2 hs
  go_wp2_with fail
  have hW := HS.out
  have hb7 : Bs (w5.setCell ⟨g, 0, none⟩ (.int .u8 0)) (.slice (some ⟨g, 0, none⟩) (N + 18) c3) (L.set 0 0) := by
    have h : Sl (w5.setCell ⟨g, 0, none⟩ (.int .u8 0)) (.slice (some ⟨g, 0, none⟩) L.length c3) (L.set 0 0).length 1 (bv (L.set 0 0)) := Sl.of_own hW
    rw [HLN2.out] at h; exact h
  have hgw : w.heap.size ≠ g := by have := K2.out.lt; omega
  have K7 := Lib.hid (K5.out.other ⟨g, 0, none⟩ (.int .u8 0) hgw)
  have B7 : Bs (w5.setCell ⟨g, 0, none⟩ (.int .u8 0)) (.slice a N c) f.2 := by
    refine (HB.out.grew ((G5))).fr (S := (· = g)) ((Fr.refl (· = g) w5).set g 0 _ (fun _ => rfl)) ?_
    intro g' hg' hne e
    obtain ⟨_, x, e, _, _, _, h4⟩ := HB.out.open
    cases e
    have hpos : 0 < f.2.length := List.length_pos_iff.2 (by intro e; rw [e] at hne; exact hne rfl)
    obtain ⟨bb, oo, rfl, hcl⟩ := h4 (by omega)
    have h8 : bb = g' := Option.some.inj hg'
    have h9 : bb < w.heap.size := cell_lt (hcl 0 _ (bv_get f.2 0 hpos))
    have := (Grew.trans (Grew.trans g0 g1) g2).size
    omega
  have HB7 := Lib.hid B7
  have G7 : Grew w (w5.setCell ⟨g, 0, none⟩ (.int .u8 0)) := grew_set G5 (by have := (Grew.trans (Grew.trans g0 g1) g2).size; omega) _
  have k8 := all_any (L.set 0 0) _ _ hb7 (by rw [List.length_set, HLN2.out]; omega)
  rw [HR.out] at k8
  generalize (walkL false (L.set 0 0) 0).2.2 = F8 at k8
  refine k8.mono ?_
  clear k8 hb7 hW B7
  generalize w5.setCell ⟨g, 0, none⟩ (.int .u8 0) = w7 at K7 HB7 G7 ⊢
  clear t0 t1 hu0 HS HSET
  rintro e w8 ⟨v8, rfl, r8, g8⟩
  obtain ⟨a8, n8, c8, rfl, en8, u8a, u8b⟩ := r8.shape
  obtain ⟨b8, o8, rfl, hc8⟩ := r8.frs.cells (by simp)
  obtain ⟨y0, y1, u8, y2, y3⟩ := hc8 0 (by simp)
  simp only [Nat.zero_mul, Nat.add_zero, List.getElem_cons_zero] at y0 y1 y2 y3
  replace y0 : w8.cell? ⟨b8, o8, none⟩ = some (.int .i64 5) := y0
  replace y1 : w8.cell? ⟨b8, o8 + 1, none⟩ = some (.int .u8 (f.1.toNat : Int)) := y1
  replace y3 : Bs w8 u8 f.2 := y3
  obtain ⟨sa1, sa2, sa3, rfl, -⟩ := bs_shape y3
  have G8 := G7.trans g8
  obtain ⟨x0, x1, x2, x3⟩ := cells2 (K7.out.grew g8)
  have hn8 : 0 < n8 := by rw [en8]; simp
  have gD : Grew w8 w8.drew := Drew.grew ⟨1, rfl⟩
  have kc := frsame_any f f _ _ w8.drew (y3.grew gD) ((HB7.out.grew g8).grew gD)
  simp only [show (f == f) = true by simp] at kc
  have KC := Lib.hid kc
  have z1 : (0 : Int) < (n8 : Int) := by omega
  have z2 : decide ((n8 : Int) > 0) = true := by simp; omega
  have z3 : decide ((0 : Int) < (n8 : Int)) = true := by simp; omega
  clear hc8 kc r8 en8 y3
  go_wp2
  go_region_held3 (fun W => W.cell? ⟨b8, o8, none⟩ = some (.int .i64 5) ∧ W.cell? ⟨b8, o8 + 1, none⟩ = some (.int .u8 (f.1.toNat : Int)) ∧ W.cell? ⟨b8, o8 + 2, none⟩ = some (.slice sa1 sa2 sa3) ∧ W.cell? ⟨w.heap.size, 0, none⟩ = some (.int .u8 (f.1.toNat : Int)) ∧ W.cell? ⟨w.heap.size, 1, none⟩ = some (.slice a N c))
    (first | go_keep | exact ⟨j0, j1, j2, j3, j4⟩) ((go_at_call 16; refine KC.out.mono ?_; rintro e9 W9 ⟨rfl, g9⟩; have j0 := (below_ext g9) _ _ y0; have j1 := (below_ext g9) _ _ y1; have j2 := (below_ext g9) _ _ y2; have j3 := (below_ext g9) _ _ x0; have j4 := (below_ext g9) _ _ x1))
  go_wp2
  go_ret
  exact ⟨rfl, (G8.trans gD).trans g9⟩
theorem nested_walkN (f : Frm) (n : Nat) (v : Value) (w : World) (hb : Bs w v f.2) (hn : n < 256) :
    Calls Try.prog 9 #[frV f.1 v, .int .u8 (n : Int)] w fun e w' => e = .returned (.bool true) ∧ Grew w w' := by
  have := nested_walk f (UInt8.ofNat n) v w hb
  rwa [ofNat_u8 n hn] at this
end Go.Proofs.Ythjfgefkahgenaa
