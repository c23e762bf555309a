/- resync.Gaps. -/
import Derived.Test.YthjfgefkahgenaaGa1
import Derived.Test.YthjfgefkahgenaaFrF
import Derived.BigQuiet
namespace Go.Proofs.Ythjfgefkahgenaa
open Go Go.RowKit Go.Shelf
attribute [local go_sem] Oper.semAt_some

theorem GapsV.grew {W W' : World} {base : Nat} {v : Value} {ps : List GV} (h : GapsV W base v ps) (g : Grew W W') : GapsV W' base v ps := own_grew h g
theorem GapsV.ck {n base : Nat} {W W' : World} {v : Value} {ps : List GV} (h : GapsV W base v ps) (hc : CK n W W') : GapsV W' base v ps := hc.own h
theorem GapsV.set {W : World} {base : Nat} {v : Value} {ps : List GV} (h : GapsV W base v ps) {b : Nat} {t : TypeId} {cs : Array Value} (hb : Blk W b t cs) (ht : t ≠ 42) (j : Nat) (u : Value) : GapsV (W.setCell ⟨b, j, none⟩ u) base v ps :=
  own_set h _ _ (fun e => blk_ne_row hb h ht e.symm)
theorem GapsV.nil (W : World) (base : Nat) : GapsV W base (.slice none 0 0) [] := World.ownsRow_nil _ _ _ _
/-- what the rounds leave: base block w.heap.size: the row -/
def GapI (l : List UInt8) (w : World) (pre : List Mk) (W : World) : Prop := ∃ (v : Value) (out : List GV),
  Blk W w.heap.size 39 #[v] ∧ GapsV W w.heap.size v out ∧ Grew w W ∧ nextPos l pre ≤ l.length ∧ RowKit.Hid (GI l (nextPos l pre) out)
def GapX (l : List UInt8) (w : World) (c0 : Code) (c : Code) (_pre : List Mk) (W : World) : Prop := c = c0 ∧ ∃ (v : Value) (out : List GV),
  Blk W w.heap.size 39 #[v] ∧ GapsV W w.heap.size v out ∧ Grew w W ∧ RowKit.Hid (out = gapsL l)
theorem GapI.grew {l : List UInt8} {w : World} {pre : List Mk} {A B : World} (h : GapI l w pre A) (e : Grew A B) : GapI l w pre B := by
  obtain ⟨v, out, h1, h2, h3, h4⟩ := h
  exact ⟨v, out, h1.grew e, h2.grew e, h3.trans e, h4⟩
theorem GapI.ck {l : List UInt8} {w : World} {pre : List Mk} {n : Nat} {A B : World} (h : GapI l w pre A) (e : CK n A B) (hn : w.heap.size ≤ n) : GapI l w pre B := by
  obtain ⟨v, out, h1, h2, h3, h4⟩ := h
  exact ⟨v, out, e.blk h1, h2.ck e, e.below h3 hn, h4⟩
theorem GapX.grew {l : List UInt8} {w : World} {c0 c : Code} {pre : List Mk} {A B : World} (h : GapX l w c0 c pre A) (e : Grew A B) : GapX l w c0 c pre B := by
  obtain ⟨hc, v, out, h1, h2, h3, h4⟩ := h
  exact ⟨hc, v, out, h1.grew e, h2.grew e, h3.trans e, h4⟩
theorem GapX.ck {l : List UInt8} {w : World} {c0 c : Code} {pre : List Mk} {n : Nat} {A B : World} (h : GapX l w c0 c pre A) (e : CK n A B) (hn : w.heap.size ≤ n) : GapX l w c0 c pre B := by
  obtain ⟨hc, v, out, h1, h2, h3, h4⟩ := h
  exact ⟨hc, v, out, e.blk h1, h2.ck e, e.below h3 hn, h4⟩

set_option maxRecDepth 100000 in
set_option maxHeartbeats 4000000 in
theorem gaps_any (l : List UInt8) (v : Value) (w : World) (hb : Bs w v l) (hlen : l.length ≤ 1000000000) :
    Calls Try.prog 18 #[v] w fun e w' => ∃ v', e = .returned v' ∧ GapsV w' w.heap.size v' (gapsL l) ∧ Grew w w' := by
  obtain ⟨a, c, rfl⟩ := bs_len hb
  refine (callsIn_wide (n := 0)).1 (callsIn_of_wp_marks Try.func18 rfl trivial ?_ rfl)
  simp only [Try.ntmps18, List.size_toArray, List.length_cons, List.length_nil, Nat.reduceAdd, Nat.reduceSub, Array.replicate_succ, Array.replicate_zero, List.push_toArray, List.append_toArray, List.nil_append, List.cons_append]
  gi_wp2
  refine wpIn_scope_wide ?_
  gi_wp2
  refine wpIn_label ?_
  gi_wp2_with (gi_at_call 43; refine (callsIn_wide.2 (reach_any _ _ _ _)).mono ?_; rintro e w1 ⟨rfl, rfl⟩)
  obtain ⟨w0, hw0⟩ : ∃ w0, w0 = w.alloc (.cells #[.slice none 0 0] 39) := ⟨_, rfl⟩
  have gw0 : Grew w w0 := by rw [hw0]; exact (Below.refl _ _).alloc (Nat.le_refl _) _
  have hz0 : w0.heap.size = w.heap.size + 1 := by rw [hw0]; simp
  have k1 : Blk w0 w.heap.size 39 #[.slice none 0 0] := by rw [hw0]; exact Blk.new _ _ _
  try rw [← hw0]
  try rw [← hz0]
  have gb := grew_alloc w0 (.cells #[.slice a l.length c] 22)
  refine wpIn_iterW (gf := 56) (lb := #[.pointer (some ⟨w0.heap.size, 0, none⟩)]) rfl (enters_of Try.func56 (by kernel_rfl) rfl)
    (resync_iter l (.slice a l.length c) w0.heap.size w.heap.size _ (by have := gw0.size; simp; omega) (Blk.new _ _ _) (fun w' h => hb.grew (Below.trans (gw0.trans gb) h)) hlen)
    (fun A B e => keepsOthers_grew e) (fun A B C h1 h2 => ⟨h2.below h1.1 (by have := gw0.size; simp; omega), h1.2.ck h2⟩) (fun _ => rfl)
    (GapI l w) (GapX l w (.exit 0)) (fun pre A B h e => h.grew e) (fun pre A B h hc => h.ck hc (by have := gw0.size; simp; omega)) (fun _ _ _ _ h e => h.grew e) (fun _ _ _ _ h hc => h.ck hc (by have := gw0.size; simp; omega))
    ⟨_, [], k1.grew gb, GapsV.nil _ _, gw0.trans gb, Nat.zero_le _, Lib.hid (GI.nil l)⟩ ?round ?done ?stop
  case stop =>
    rintro cd pre W - ⟨rfl, v, out, h1, h2, h3, h4⟩ hD
    obtain ⟨a9, n9, c9, rfl, hn9⟩ : ∃ a n c, v = .slice a n c ∧ True := by obtain ⟨a, c, e, _⟩ := (Sl.of_own h2).open; exact ⟨a, _, c, e, trivial⟩
    have c1 := h1.cell 0
    simp only [List.getElem?_toArray, List.getElem?_cons_zero] at c1
    clear h1
    gi_wp2
    rw [Exit.noGoto_ret]
    have hD2 := hD
    refine ⟨by simp, .inl ⟨_, _, rfl, run_takeDeferred hD2, ?_⟩⟩
    have hck2 : CK w.heap.size W _ := CK.putObj w.heap.size W _ _ (.deferred none) hD2 rfl (by simp; omega)
    refine ⟨_, results_tmp rfl _ _ _, ?_⟩
    rw [h4.out] at h2
    exact ⟨_, rfl, h2.ck hck2, Below.trans h3 (hck2.toBelow (Nat.le_refl _))⟩
  case done =>
    rintro xs W hS ⟨v, out, h1, h2, h3, h4, h5⟩ hD
    have e9 : nextPos l xs = l.length := by omega
    rw [e9] at h5
    clear h4 hS
    obtain ⟨a9, n9, c9, rfl, hn9⟩ : ∃ a n c, v = .slice a n c ∧ True := by obtain ⟨a, c, e, _⟩ := (Sl.of_own h2).open; exact ⟨a, _, c, e, trivial⟩
    have c1 := h1.cell 0
    simp only [List.getElem?_toArray, List.getElem?_cons_zero] at c1
    clear h1 e9
    gi_wp2
    rw [Exit.noGoto_ret]
    have hD2 := hD
    refine ⟨by simp, .inl ⟨_, _, rfl, run_takeDeferred hD2, ?_⟩⟩
    have hck2 : CK w.heap.size W _ := CK.putObj w.heap.size W _ _ (.deferred none) hD2 rfl (by simp; omega)
    refine ⟨_, results_tmp rfl _ _ _, ?_⟩
    rw [h5.out.fin] at h2
    exact ⟨_, rfl, h2.ck hck2, Below.trans h3 (hck2.toBelow (Nat.le_refl _))⟩
  case round =>
    rintro lp pre ⟨k, pv⟩ W hi ⟨hk1, hk2, hpv⟩
    obtain ⟨a1, n1, cp, rfl, hn1⟩ := hpv.shape
    simp only at hk1 hk2 hpv
    obtain ⟨X, hX⟩ : ∃ X, X = rdAt l k := ⟨_, rfl⟩
    rw [← hX] at hpv
    have HX := Lib.hid hX
    have HK2 := Lib.hid hk2
    have hwz : w.heap.size ≤ W.heap.size := by obtain ⟨_, _, _, _, h, _⟩ := hi; exact h.size
    have hga := grew_alloc W (.cells #[.int .i64 k, .int .i64 X.2.1, .int .u8 (X.1.1.toNat : Int), .slice a1 n1 cp, .int .i64 X.2.2] 73)
    simp only [encMk, ← hX]
    clear hX hk2
    gi_wp2
    refine ⟨keepsOthers_grew hga, hi.grew hga, ?_⟩
    rintro W2 hck hsz ⟨v, out, h1, h2, h5, h6, h9⟩
    have hs := hck.blk (Blk.new W 73 #[.int .i64 k, .int .i64 X.2.1, .int .u8 (X.1.1.toNat : Int), .slice a1 n1 cp, .int .i64 X.2.2])
    have hkeep : KeepB w0.heap.size 22 W W2 := fun cs hc => hck.blk (hc.grew hga)
    rw [hz0] at hkeep
    have hbel : Below w.heap.size W W2 := hck.below (hga.mono hwz) (by have := gw0.size; simp; omega)
    clear hi hga hck hsz hpv
    have hkl : k < l.length := hk1
    have hX2 : X.2.1 ≤ l.length - k := by
      rw [HX.out]; unfold rdAt fread
      split
      · rename_i h; have := (ferr_zero h).1; simp at this; simp; omega
      · simp
    have hn : nextPos l (pre ++ [(k, .slice a1 n1 cp)]) = k + max X.2.1 1 := by rw [nextPos_snoc]; simp only [← HX.out]
    have HN := Lib.hid hn
    rw [← HK2.out] at h6 h9
    have c1 := h1.cell 0
    have s0 := hs.cell 0
    have s3 := hs.cell 4
    simp only [List.getElem?_toArray, List.getElem?_cons_zero, List.getElem?_cons_succ] at c1 s0 s3
    have f1 := h1.frozen 0
    obtain ⟨D, hD⟩ : ∃ D, D = l.drop k := ⟨_, rfl⟩
    have hXD : X = fread D := by rw [HX.out, rdAt, hD]
    clear hn hk1 hs
    by_cases he : ferr D = 0
    · rw [fread_ok he] at hXD
      have hX1 : X.2.2 = 0 := by rw [hXD]
      have hX0 : X.2.1 = flen D + 9 := by rw [hXD]
      have hmx : max X.2.1 1 = flen D + 9 := by omega
      have hG := h9.out.ok (by rw [← hD]; exact he)
      rw [← hD, ← hmx, ← HN.out] at hG
      have HG := Lib.hid hG
      have hle : nextPos l (pre ++ [(k, .slice a1 n1 cp)]) ≤ l.length := by rw [HN.out]; omega
      have HLE := Lib.hid hle
      rw [hX1] at s3
      replace s3 : W2.cell? ⟨W.heap.size, 4, none⟩ = some (.int .i64 0) := s3
      have H9 := Lib.hid h9
      clear he hXD hX1 hX0 hmx hG hle h9 hD HX
      gi_wp2
      exact ⟨KeepsOthers.refl _, ⟨hbel, hkeep⟩, v, out, h1, h2, h5, HLE.out, HG⟩
    · have hXE : X = ((0, []), 0, ferr D) := by rw [hXD]; exact fread_fail rfl he
      obtain ⟨E, hE⟩ : ∃ E, E = ferr D := ⟨_, rfl⟩
      have hX1 : X.2.2 = E := by rw [hXE, hE]
      have hmx : max X.2.1 1 = 1 := by rw [hXE]; rfl
      rw [hX1] at s3
      have hne : ((E : Int) == 0) = false := by simp; omega
      by_cases h4e : ferr D = 4
      · have hS := h9.out.stop (by rw [← hD]; exact h4e)
        have HS := Lib.hid hS
        have hE4 : E = 4 := by rw [hE, h4e]
        clear hX1 hmx hne he hXD hXE hE hD h4e h9 hS HX
        subst hE4
        replace s3 : W2.cell? ⟨W.heap.size, 4, none⟩ = some (.int .i64 4) := s3
        gi_wp2
        exact ⟨KeepsOthers.refl _, rfl, v, out, h1, h2, h5, HS⟩
      · have hn4 : ((E : Int) == 4) = false := by simp; omega
        have hP := h9.out.pass hkl (by rw [← hD]; exact he) (by rw [← hD]; exact h4e)
        have hle : nextPos l (pre ++ [(k, .slice a1 n1 cp)]) ≤ l.length := by rw [HN.out, hmx]; omega
        have HLE := Lib.hid hle
        have hnp : nextPos l (pre ++ [(k, .slice a1 n1 cp)]) = k + 1 := by rw [HN.out, hmx]
        have hok : out.length ≤ k := by obtain ⟨_, _, _, _, _, h, _⟩ := h9.out; exact h
        have hk9 : (k : Int) ≤ 1000000000 := by omega
        have HNP := Lib.hid hnp
        have H2 := Lib.hid h2
        clear hX1 hmx he hXD hXE hE hD h4e h9 hle hnp HX HN hX2
        rcases hP with ⟨hn, hlast, hG⟩ | ⟨hlast, hG⟩
        · obtain ⟨g, cap, rfl, q1, q2, q3, q4, hset⟩ := gaps_open h2 (by omega)
          obtain ⟨m, hm⟩ : ∃ m, out.length = m + 1 := ⟨out.length - 1, by omega⟩
          obtain ⟨x0, x1, x2, x3⟩ := hset (out.length - 1) hn
          have hs3 := x3 (k + 1)
          rw [hlast] at x1
          obtain ⟨O2, hO2⟩ : ∃ O2, O2 = out.set (out.length - 1) (out[out.length - 1].1, k + 1) := ⟨_, rfl⟩
          rw [← hO2] at hs3 hG
          have hm1 : out.length - 1 = m := by omega
          rw [hm1] at x1 x2 hs3
          rw [hm] at c1 hs3 h1
          have HG := Lib.hid hG
          have HS3 := Lib.hid hs3
          have HM := Lib.hid hm
          have hmk : (m : Int) ≤ 1000000000 := by omega
          have zw : IntKind.i64.wrap (m : Int) = (m : Int) := by rw [IntKind.wrap_i64]; omega
          have za : (0 : Int) ≤ (m : Int) := by omega
          have zb : (m : Int) < (m : Int) + 1 := by omega
          have hne2 : g ≠ w.heap.size := fun e => blk_ne_row h1 (show GapsV W2 w.heap.size (.slice (some ⟨g, 0, none⟩) (m + 1) cap) out by rw [← hm]; exact h2) (by decide) (by rw [e]; rfl)
          clear hG hset x0 x3 hs3 hm hlast q3 hok hO2 hm1 h2
          gi_wp2
          refine wpIn_region_quiet (open_round _) ?_ (by kernel_rfl) (by kernel_rfl) (by kernel_rfl) ?_
          · rintro ⟨_, _, h⟩
            exact h
          · repeat (first | go_big_quiet_step (fail) | quiet_step (fail))
            refine wpQuiet_nil ?_
            rintro _ ⟨nq, rfl⟩
            have gd : Grew W2 (W2.drewN nq) := Drew.grew ⟨nq, rfl⟩
            gi_wp2
            refine wpIn_region_tail (open_round _) ?_ 10 (by kernel_rfl) (by kernel_rfl) (by kernel_rfl) ?_
            · rintro ⟨_, _, h⟩
              exact h
            · simp only [List.take_succ_cons, List.take_zero, List.drop_succ_cons, List.drop_zero]
              repeat still_step
              refine wpStill_nil ?_
              go_wp2
              have gd1 : Grew W2 (W2.drewN (nq + 1)) := Drew.grew ⟨_, rfl⟩
              have gB : Below w.heap.size W2 ((W2.drewN (nq + 1)).setCell ⟨g, m * 2 + 1, none⟩ (.int .i64 ((k : Int) + 1))) := grew_set (gd1.mono h5.size) q1 _
              have hs5 : GapsV ((W2.drewN (nq + 1)).setCell ⟨g, m * 2 + 1, none⟩ (.int .i64 ((k : Int) + 1))) w.heap.size (.slice (some ⟨g, 0, none⟩) (m + 1) cap) O2 :=
                HS3.out.grew (show Grew _ ((W2.setCell ⟨g, m * 2 + 1, none⟩ (.int .i64 ((k : Int) + 1))).drewN (nq + 1)) from Drew.grew ⟨_, rfl⟩)
              refine ⟨(keepsOthers_grew gd1).trans (KeepsOthers.setCell _ _ _), ⟨hbel.trans gB, fun cs hc => ((hkeep cs hc).grew gd1).other ⟨g, m * 2 + 1, none⟩ _ (fun e => blk_ne_row (hkeep cs hc) H2.out (by decide) (by rw [e]; rfl))⟩, ?_⟩
              exact ⟨_, O2, (h1.grew gd1).other ⟨g, m * 2 + 1, none⟩ _ (fun e => hne2 e.symm), hs5, Below.trans h5 gB, HLE.out, by rw [HNP.out]; exact HG⟩
        · have HG := Lib.hid hG
          obtain ⟨a9, c9, e9, -⟩ := (Sl.of_own h2).open
          by_cases h0 : out.length = 0
          · have e0 : v = .slice a9 0 c9 := by rw [e9, h0]
            subst e0
            clear hlast hG e9 h2 h0
            gi_wp2
            refine wpIn_region_quiet (open_round _) ?_ (by kernel_rfl) (by kernel_rfl) (by kernel_rfl) ?_
            · rintro ⟨_, _, h⟩
              exact h
            · repeat (first | go_big_quiet_step (fail) | quiet_step (fail))
              refine wpQuiet_nil ?_
              rintro _ ⟨nq, rfl⟩
              -- a place more
              obtain ⟨w3, hw3⟩ : ∃ w3, w3 = W2.drewN nq := ⟨_, rfl⟩
              have gd : Grew W2 w3 := by rw [hw3]; exact Drew.grew ⟨nq, rfl⟩
              rw [← hw3]
              clear hw3
              have h1 := h1.grew gd
              have c1 := h1.cell 0
              have f1 := h1.frozen 0
              have s0 := (below_ext gd) _ _ s0
              simp only [List.getElem?_toArray, List.getElem?_cons_zero] at c1
              have hga := grew_alloc w3 (.cells #[.int .i64 k, .int .i64 ((k : Int) + 1)] 42)
              have HO := Lib.hid (H2.out.grew gd)
              have HSL : RowKit.Hid (Sl (w3.alloc (.cells #[.int .i64 k, .int .i64 ((k : Int) + 1)] 42)) (.slice (some ⟨w3.heap.size, 0, none⟩) 1 1) 1 2 (gdv (k, k + 1))) :=
                Sl.lit w3 42 (0, 0) #[.int .i64 k, .int .i64 ((k : Int) + 1)] 1 2 rfl (by unfold maxLen; omega)
              gi_wp2_with (gi_at_builtin; refine wpListIn_pushG rfl _ _ rfl w.heap.size _ out rfl (HO.out.grew hga) _ rfl (k, k + 1) HSL.out (by omega) (by have := h5.size; have := gd.size; simp; omega) ?_; intro v' w2 hown2 hB2 hgb; obtain ⟨a8, c8, rfl, -⟩ := (Sl.of_own hown2).open; have h1w := (h1.grew hga).kept hgb (blk_ne_row (h1.grew hga) (HO.out.grew hga) (by decide)); have c1w := h1w.cell 0; simp only [List.getElem?_toArray, List.getElem?_cons_zero] at c1w; have f1w := h1w.frozen 0)
              have kb : ∀ b t cs, Blk W2 b t cs → t ≠ 42 → b ≠ w.heap.size → Blk (w2.setCell ⟨w.heap.size, 0, none⟩ (.slice a8 (out.length + 1) c8)) b t cs := fun b t cs h ht hne =>
                (((h.grew gd).grew hga).kept hgb (blk_ne_row ((h.grew gd).grew hga) (HO.out.grew hga) ht)).other ⟨w.heap.size, 0, none⟩ _ hne
              have hl1 : (out ++ [(k, k + 1)]).length = out.length + 1 := by simp
              rw [hl1] at hown2
              have gB : Below w.heap.size W2 (w2.setCell ⟨w.heap.size, 0, none⟩ (.slice a8 (out.length + 1) c8)) := grew_set (Below.trans (gd.mono h5.size) (Below.trans (hga.mono (by have := h5.size; have := gd.size; omega)) hB2)) (by omega) _
              refine ⟨((keepsOthers_grew gd).trans ((keepsOthers_grew hga).trans (keepsOthers_app (HO.out.grew hga) hgb))).trans (KeepsOthers.setCell _ _ _), ⟨hbel.trans gB, fun cs hc => kb _ _ _ (hkeep cs hc) (by decide) (by omega)⟩, ?_⟩
              exact ⟨_, out ++ [(k, k + 1)], h1w.set 0 _, hown2.set h1w (by decide) 0 _, Below.trans h5 gB, HLE.out, by rw [HNP.out]; exact HG⟩
          · obtain ⟨g, cap, e8, q1, q2, q3, q4, hset⟩ := gaps_open h2 (by omega)
            obtain ⟨m, hm⟩ : ∃ m, out.length = m + 1 := ⟨out.length - 1, by omega⟩
            have hn : out.length - 1 < out.length := by omega
            obtain ⟨x0, x1, x2, x3⟩ := hset (out.length - 1) hn
            have hl := hlast hn
            generalize out[out.length - 1].2 = Z at x1 hl
            rw [show out.length - 1 = m by omega] at x1
            have HM := Lib.hid hm
            have HOK := Lib.hid hok
            have hmk : (m : Int) ≤ 1000000000 := by omega
            have zw : IntKind.i64.wrap (m : Int) = (m : Int) := by rw [IntKind.wrap_i64]; omega
            have za : (0 : Int) ≤ (m : Int) := by omega
            have zb : (m : Int) < (m : Int) + 1 := by omega
            have z0 : ((Z : Int) == (k : Int)) = false := by simp; omega
            rw [hm] at e8
            subst e8
            clear hlast hG e9 h2 hset x0 x2 x3 hn hm hl h0 q1 q2 q3 hok
            gi_wp2
            refine wpIn_region_quiet (open_round _) ?_ (by kernel_rfl) (by kernel_rfl) (by kernel_rfl) ?_
            · rintro ⟨_, _, h⟩
              exact h
            · repeat (first | go_big_quiet_step (fail) | quiet_step (fail))
              refine wpQuiet_nil ?_
              rintro _ ⟨nq, rfl⟩
              have hok := HOK.out
              -- a place more
              obtain ⟨w3, hw3⟩ : ∃ w3, w3 = W2.drewN nq := ⟨_, rfl⟩
              have gd : Grew W2 w3 := by rw [hw3]; exact Drew.grew ⟨nq, rfl⟩
              rw [← hw3]
              clear hw3
              have h1 := h1.grew gd
              have c1 := h1.cell 0
              have f1 := h1.frozen 0
              have s0 := (below_ext gd) _ _ s0
              simp only [List.getElem?_toArray, List.getElem?_cons_zero] at c1
              have hga := grew_alloc w3 (.cells #[.int .i64 k, .int .i64 ((k : Int) + 1)] 42)
              have HO := Lib.hid (H2.out.grew gd)
              have HSL : RowKit.Hid (Sl (w3.alloc (.cells #[.int .i64 k, .int .i64 ((k : Int) + 1)] 42)) (.slice (some ⟨w3.heap.size, 0, none⟩) 1 1) 1 2 (gdv (k, k + 1))) :=
                Sl.lit w3 42 (0, 0) #[.int .i64 k, .int .i64 ((k : Int) + 1)] 1 2 rfl (by unfold maxLen; omega)
              gi_wp2_with (gi_at_builtin; refine wpListIn_pushG rfl _ _ rfl w.heap.size _ out rfl (HO.out.grew hga) _ rfl (k, k + 1) HSL.out (by omega) (by have := h5.size; have := gd.size; simp; omega) ?_; intro v' w2 hown2 hB2 hgb; obtain ⟨a8, c8, rfl, -⟩ := (Sl.of_own hown2).open; have h1w := (h1.grew hga).kept hgb (blk_ne_row (h1.grew hga) (HO.out.grew hga) (by decide)); have c1w := h1w.cell 0; simp only [List.getElem?_toArray, List.getElem?_cons_zero] at c1w; have f1w := h1w.frozen 0)
              have kb : ∀ b t cs, Blk W2 b t cs → t ≠ 42 → b ≠ w.heap.size → Blk (w2.setCell ⟨w.heap.size, 0, none⟩ (.slice a8 (out.length + 1) c8)) b t cs := fun b t cs h ht hne =>
                (((h.grew gd).grew hga).kept hgb (blk_ne_row ((h.grew gd).grew hga) (HO.out.grew hga) ht)).other ⟨w.heap.size, 0, none⟩ _ hne
              have hl1 : (out ++ [(k, k + 1)]).length = out.length + 1 := by simp
              rw [hl1] at hown2
              have gB : Below w.heap.size W2 (w2.setCell ⟨w.heap.size, 0, none⟩ (.slice a8 (out.length + 1) c8)) := grew_set (Below.trans (gd.mono h5.size) (Below.trans (hga.mono (by have := h5.size; have := gd.size; omega)) hB2)) (by omega) _
              refine ⟨((keepsOthers_grew gd).trans ((keepsOthers_grew hga).trans (keepsOthers_app (HO.out.grew hga) hgb))).trans (KeepsOthers.setCell _ _ _), ⟨hbel.trans gB, fun cs hc => kb _ _ _ (hkeep cs hc) (by decide) (by omega)⟩, ?_⟩
              exact ⟨_, out ++ [(k, k + 1)], h1w.set 0 _, hown2.set h1w (by decide) 0 _, Below.trans h5 gB, HLE.out, by rw [HNP.out]; exact HG⟩
end Go.Proofs.Ythjfgefkahgenaa
