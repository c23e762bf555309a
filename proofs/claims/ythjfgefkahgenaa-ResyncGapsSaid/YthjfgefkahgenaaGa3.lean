/- rescriptref14.Gaps. -/
import Derived.Test.YthjfgefkahgenaaGa2
import Derived.Test.YthjfgefkahgenaaFrV
namespace Go.Proofs.Ythjfgefkahgenaa
open Go Go.RowKit Go.Shelf

theorem walk_cnt (ended : Bool) (l : List UInt8) (k : Nat) : (walkL ended l k).1.length ≤ l.length := by
  refine walk_ind (ended := ended) (C := fun l k => (walkL ended l k).1.length ≤ l.length) ?_ ?_ ?_ ?_ l k
  · intro k; simp [walkL_nil]
  · intro l k h ih
    have hz := (ferr_zero h).1
    rw [walkL_ok k h, List.length_cons]
    rw [List.length_drop] at ih
    omega
  · intro l k hl h he
    subst he
    rw [walkL_short k h]; simp
  · intro l k hl h h4 ih
    rw [walkL_pass k hl h h4]
    rw [List.length_drop] at ih
    show (walkL ended (l.drop 1) (k + 1)).1.length ≤ _
    omega
theorem tailG_lt {s k : Nat} (h : s < k) : tailG s k = [(s, k)] := if_pos h
theorem tailG_ge {s k : Nat} (h : ¬ s < k) : tailG s k = [] := if_neg h

set_option maxRecDepth 100000 in
set_option maxHeartbeats 4000000 in
theorem r14gaps_any (l : List UInt8) (v : Value) (w : World) (hb : Bs w v l) (hlen : l.length ≤ 100000000) :
    Calls Try.prog 19 #[v] w fun e w' => ∃ v', e = .returned v' ∧ GapsV w' w.heap.size v' (gapsL l) ∧ Grew w w' := by
  have kw := r14walk_any l false v w hb (by omega)
  obtain ⟨a, n, c, rfl, -⟩ := bs_shape hb
  have EW := Lib.hid (walk_at false l 0)
  have FW := Lib.hid (walk_from false l 0).2.1
  have CW := Lib.hid (walk_cnt false l 0)
  have hg : gapsL l = refG (walkL false l 0).2.2 (walkL false l 0).1 0 := rfl
  obtain ⟨R, hR⟩ : ∃ R, R = walkL false l 0 := ⟨_, rfl⟩
  rw [← hR] at kw EW FW CW hg
  obtain ⟨G, hG⟩ : ∃ G, G = gapsL l := ⟨_, rfl⟩
  rw [← hG] at hg ⊢
  have HG := Lib.hid hg
  have KW := Lib.hid kw
  have hE : R.2.2 ≤ 100000000 := by have := FW.out; omega
  clear kw hg hR hG hb
  go_enter Try.func19, Try.ntmps19
  go_wp2_with fail
  refine KW.out.mono ?_
  rintro e w1 ⟨v1, rfl, r1, g1⟩
  obtain ⟨a1, n1, c1, rfl, hn1, h1, h2⟩ := r1.shape
  subst hn1
  have R1 := Lib.hid r1.frs
  obtain ⟨E, hE'⟩ : ∃ E, E = R.2.2 := ⟨_, rfl⟩
  rw [← hE'] at HG FW hE EW ⊢
  clear r1 hE'
  have hcnt : R.1.length ≤ 100000000 := by have := CW.out; omega
  go_wp2
  go_loopw [6, 7, 8] (fun gv av iv wr => ∃ (i at_ : Nat) (ps : List GV), i ≤ R.1.length + 1 ∧ av = .int .i64 at_ ∧ iv = .int .i64 i ∧ at_ ≤ 200000000 ∧ GapsV wr w1.heap.size gv ps ∧ ps.length ≤ i ∧ (i ≤ R.1.length → G = ps ++ refG E (R.1.drop i) at_) ∧ (i = R.1.length + 1 → ps = G) ∧ Grew w1 wr) (fun _ _ iv _ => R.1.length + 1 - (intOf iv).toNat)
  case atStart => exact ⟨0, 0, [], by omega, rfl, rfl, by omega, GapsV.nil _ _, by simp, fun _ => by simpa using HG.out, fun h => by omega, Below.refl _ _⟩
  case round =>
    obtain ⟨i, at_, ps, hi, rfl, rfl, hat, hps, hpl, hI, hJ, gr⟩ := hrel
    by_cases hlt : i < R.1.length
    · obtain ⟨b1, o1, rfl, hc1⟩ := R1.out.cells (by omega)
      obtain ⟨y0, y1, u, y2, hbs⟩ := hc1 i hlt
      have Y2 := y2
      replace y0 := (below_ext gr) _ _ y0
      replace y2 := (below_ext gr) _ _ y2
      obtain ⟨ua, un, uc, rfl, hun⟩ := bs_shape hbs
      have YH := Lib.hid Y2
      have hI2 := hI (by omega)
      rw [List.drop_eq_getElem_cons hlt] at hI2
      have hq := (EW.out.1 R.1[i] (List.getElem_mem hlt)).2.1
      have hI3 : G = ps ++ (tailG at_ R.1[i].1 ++ refG E (R.1.drop (i + 1)) (R.1[i].1 + (R.1[i].2.2.length + 9))) := hI2
      unfold fend at hq
      rw [← hun.out] at hI3 hq
      generalize R.1[i].1 = p at y0 hq hI3
      obtain ⟨p9, hp9⟩ : ∃ p9, p9 = p + (un + 9) := ⟨_, rfl⟩
      have HP9 := Lib.hid hp9
      rw [← hp9] at hI3
      have hp9' : p9 ≤ 200000000 := by omega
      have hpb : (p : Int) ≤ 100000000 := by omega
      have hub : (un : Int) ≤ 100000000 := by omega
      have z0 : (0 : Int) ≤ (i : Int) := by omega
      have z1 : (i : Int) < (R.1.length : Int) := by omega
      have z2 : (i : Int) ≤ (R.1.length : Int) := by omega
      have zr : ((p : Int) + 9 + (un : Int)) = (p9 : Int) := by omega
      have HPS := Lib.hid hps
      by_cases hpu : at_ < p
      · rw [tailG_lt hpu, ← List.append_assoc] at hI3
        have HI3 := Lib.hid hI3
        have hpu' : (at_ : Int) < (p : Int) := by omega
        clear hI hJ hI2 hI3 hc1 hbs hun y1 hq hp9 hps Y2
        have hga := grew_alloc wr (.cells #[.int .i64 at_, .int .i64 p] 42)
        have HSL : RowKit.Hid (Sl (wr.alloc (.cells #[.int .i64 at_, .int .i64 p] 42)) (.slice (some ⟨wr.heap.size, 0, none⟩) 1 1) 1 2 (gdv (at_, p))) :=
          Sl.lit wr 42 (0, 0) #[.int .i64 at_, .int .i64 p] 1 2 rfl (by unfold maxLen; omega)
        go_wp2_with (at_builtin; refine wpList_pushG rfl _ _ rfl w1.heap.size _ ps rfl (HPS.out.grew hga) _ rfl (at_, p) HSL.out (by omega) (by have := gr.size; simp; omega) ?_; intro v' w2 hown2 hB2 hgb; have gr2 : Grew w1 w2 := Below.trans gr (Below.trans (hga.mono gr.size) hB2); have y2 := (below_ext gr2) _ _ YH.out)
        have HO := Lib.hid hown2
        clear hB2 hgb hown2
        try go_wp2
        go_roundw
        case rel => exact ⟨i + 1, p9, ps ++ [(at_, p)], by omega, by have := HP9.out; push_cast; first | rfl | (congr 1; omega), by go_num, hp9', HO.out, by simp; omega, fun _ => HI3.out, fun h => by omega, gr2⟩
        case measure => first | (simp [intOf]; omega) | simp [intOf]
      · rw [tailG_ge hpu, List.nil_append] at hI3
        have HI3 := Lib.hid hI3
        have hpu' : ¬ (at_ : Int) < (p : Int) := by omega
        clear hI hJ hI2 hI3 hc1 hbs hun y1 hq hp9 hps Y2
        go_wp2
        go_roundw
        case rel => exact ⟨i + 1, p9, ps, by omega, by have := HP9.out; push_cast; first | rfl | (congr 1; omega), by go_num, hp9', HPS.out, by omega, fun _ => HI3.out, fun h => by omega, gr⟩
        case measure => first | (simp [intOf]; omega) | simp [intOf]
    · by_cases he : i = R.1.length
      · subst he
        have hI2 := hI (Nat.le_refl _)
        rw [List.drop_length] at hI2
        have hI3 : G = ps ++ tailG at_ E := hI2
        have z0 : ¬ (R.1.length : Int) < (R.1.length : Int) := by omega
        have HPS := Lib.hid hps
        by_cases hpu : at_ < E
        · rw [tailG_lt hpu] at hI3
          have HI3 := Lib.hid hI3
          have hpu' : (at_ : Int) < (E : Int) := by omega
          clear hI hJ hI2 hI3 hps hlt
          have hga := grew_alloc wr (.cells #[.int .i64 at_, .int .i64 E] 42)
          have HSL : RowKit.Hid (Sl (wr.alloc (.cells #[.int .i64 at_, .int .i64 E] 42)) (.slice (some ⟨wr.heap.size, 0, none⟩) 1 1) 1 2 (gdv (at_, E))) :=
            Sl.lit wr 42 (0, 0) #[.int .i64 at_, .int .i64 E] 1 2 rfl (by unfold maxLen; omega)
          go_wp2_with (at_builtin; refine wpList_pushG rfl _ _ rfl w1.heap.size _ ps rfl (HPS.out.grew hga) _ rfl (at_, E) HSL.out (by omega) (by have := gr.size; simp; omega) ?_; intro v' w2 hown2 hB2 hgb; have gr2 : Grew w1 w2 := Below.trans gr (Below.trans (hga.mono gr.size) hB2))
          have HO := Lib.hid hown2
          clear hB2 hgb hown2
          try go_wp2
          go_roundw
          case rel => exact ⟨R.1.length + 1, at_, ps ++ [(at_, E)], by omega, rfl, by go_num, hat, HO.out, by simp; omega, fun h => by omega, fun _ => HI3.out.symm, gr2⟩
          case measure => first | (simp [intOf]; omega) | simp [intOf]
        · rw [tailG_ge hpu, List.append_nil] at hI3
          have HI3 := Lib.hid hI3
          have hpu' : ¬ (at_ : Int) < (E : Int) := by omega
          clear hI hJ hI2 hI3 hps hlt
          go_wp2
          go_roundw
          case rel => exact ⟨R.1.length + 1, at_, ps, by omega, rfl, by go_num, hat, HPS.out, by omega, fun h => by omega, fun _ => HI3.out.symm, gr⟩
          case measure => first | (simp [intOf]; omega) | simp [intOf]
      · obtain rfl : i = R.1.length + 1 := by omega
        have hJ2 := hJ rfl
        subst hJ2
        have HPS := Lib.hid hps
        have z0 : ¬ ((R.1.length : Int) + 1 ≤ (R.1.length : Int)) := by omega
        clear hI hJ hps HG
        go_wp2
        go_ret
        exact ⟨_, rfl, own_mono HPS.out g1.size, g1.trans gr⟩
end Go.Proofs.Ythjfgefkahgenaa
