/- resync.walk, All, Ended, Passed. -/
import Derived.Test.YtoinndlialimcaaFrE
namespace Go.Proofs.Ytoinndlialimcaa
open Go Go.RowKit Go.Shelf
attribute [local go_sem] Oper.semAt_some

theorem FoundsV.ck {n base : Nat} {W W' : World} {v : Value} {ps : List FV} (h : FoundsV W base v ps) (hc : CK n W W') : FoundsV W' base v ps := ⟨hc.own h.1, fun p hp => (h.2 p hp).ck hc⟩
theorem FoundsV.set {W : World} {base : Nat} {v : Value} {ps : List FV} (h : FoundsV W base v ps) {b : Nat} {t : TypeId} {cs : Array Value} (hb : Blk W b t cs) (ht : t ≠ 5) (ht2 : t ≠ 57) (j : Nat) (u : Value) : FoundsV (W.setCell ⟨b, j, none⟩ u) base v ps :=
  ⟨own_set h.1 _ _ (fun e => blk_ne_row hb h.1 ht2 e.symm), fun p hp => (h.2 p hp).set hb ht j u⟩

/-- what the rounds of walk leave: base block w.heap.size: ended; + 1: the row; + 2: passed; + 3: from -/
def WalkI (ended : Bool) (l : List UInt8) (w : World) (pre : List Mk) (W : World) : Prop := ∃ (v : Value) (ps : List FV) (P : Nat),
  Blk W w.heap.size 4 #[.bool ended] ∧ Blk W (w.heap.size + 1) 52 #[v] ∧ FoundsV W w.heap.size v ps ∧ Blk W (w.heap.size + 1 + 1) 3 #[.int .i64 P] ∧ Blk W (w.heap.size + 1 + 1 + 1) 3 #[.int .i64 l.length] ∧ Grew w W ∧
  nextPos l pre ≤ l.length ∧ P ≤ nextPos l pre ∧ ps.length ≤ nextPos l pre ∧
  RowKit.Hid (walkL ended l 0 = (ps.map (·.1) ++ (walkL ended (l.drop (nextPos l pre)) (nextPos l pre)).1, P + (walkL ended (l.drop (nextPos l pre)) (nextPos l pre)).2.1, (walkL ended (l.drop (nextPos l pre)) (nextPos l pre)).2.2))
def WalkX (ended : Bool) (l : List UInt8) (w : World) (c0 : Code) (c : Code) (_pre : List Mk) (W : World) : Prop := c = c0 ∧ ∃ (v : Value) (ps : List FV) (P F : Nat),
  Blk W (w.heap.size + 1) 52 #[v] ∧ FoundsV W w.heap.size v ps ∧ Blk W (w.heap.size + 1 + 1) 3 #[.int .i64 P] ∧ Blk W (w.heap.size + 1 + 1 + 1) 3 #[.int .i64 F] ∧ Grew w W ∧
  RowKit.Hid (walkL ended l 0 = (ps.map (·.1), P, F))
theorem WalkI.grew {ended : Bool} {l : List UInt8} {w : World} {pre : List Mk} {A B : World} (h : WalkI ended l w pre A) (e : Grew A B) : WalkI ended l w pre B := by
  obtain ⟨v, ps, P, h1, h2, h3, h4, h5, h6, h7⟩ := h
  exact ⟨v, ps, P, h1.grew e, h2.grew e, h3.grew e, h4.grew e, h5.grew e, h6.trans e, h7⟩
theorem WalkI.ck {ended : Bool} {l : List UInt8} {w : World} {pre : List Mk} {n : Nat} {A B : World} (h : WalkI ended l w pre A) (e : CK n A B) (hn : w.heap.size ≤ n) : WalkI ended l w pre B := by
  obtain ⟨v, ps, P, h1, h2, h3, h4, h5, h6, h7⟩ := h
  exact ⟨v, ps, P, e.blk h1, e.blk h2, h3.ck e, e.blk h4, e.blk h5, e.below h6 hn, h7⟩
theorem WalkX.grew {ended : Bool} {l : List UInt8} {w : World} {c0 c : Code} {pre : List Mk} {A B : World} (h : WalkX ended l w c0 c pre A) (e : Grew A B) : WalkX ended l w c0 c pre B := by
  obtain ⟨hc, v, ps, P, F, h2, h3, h4, h5, h6, h7⟩ := h
  exact ⟨hc, v, ps, P, F, h2.grew e, h3.grew e, h4.grew e, h5.grew e, h6.trans e, h7⟩
theorem WalkX.ck {ended : Bool} {l : List UInt8} {w : World} {c0 c : Code} {pre : List Mk} {n : Nat} {A B : World} (h : WalkX ended l w c0 c pre A) (e : CK n A B) (hn : w.heap.size ≤ n) : WalkX ended l w c0 c pre B := by
  obtain ⟨hc, v, ps, P, F, h2, h3, h4, h5, h6, h7⟩ := h
  exact ⟨hc, v, ps, P, F, e.blk h2, h3.ck e, e.blk h4, e.blk h5, e.below h6 hn, h7⟩

set_option maxRecDepth 100000 in
set_option maxHeartbeats 4000000 in
theorem walk_any (l : List UInt8) (ended : Bool) (v : Value) (w : World) (hb : Bs w v l) (hlen : l.length ≤ 1000000000) :
    Calls Try.prog 37 #[v, .bool ended] w fun e w' => ∃ v', e = .returned (.tuple #[v', .int .i64 (walkL ended l 0).2.1, .int .i64 (walkL ended l 0).2.2]) ∧ FOs w' w.heap.size v' (walkL ended l 0).1 ∧ Grew w w' := by
  obtain ⟨a, c, rfl⟩ := bs_len hb
  refine (callsIn_wide (n := 0)).1 (callsIn_of_wp_marks Try.func37 rfl trivial ?_ rfl)
  simp only [Try.ntmps37, List.size_toArray, List.length_cons, List.length_nil, Nat.reduceAdd, Nat.reduceSub, Array.replicate_succ, Array.replicate_zero, List.push_toArray, List.append_toArray, List.nil_append, List.cons_append]
  gi_wp2
  refine wpIn_scope_wide ?_
  gi_wp2
  refine wpIn_label ?_
  gi_wp2_with (gi_at_call 49; refine (callsIn_wide.2 (reach_any _ _ _ _)).mono ?_; rintro e w1 ⟨rfl, rfl⟩)
  obtain ⟨w0, hw0⟩ : ∃ w0, w0 = ((((w.alloc (.cells #[.bool ended] 4)).alloc (.cells #[.slice none 0 0] 52)).alloc (.cells #[.int .i64 0] 3)).alloc (.cells #[.int .i64 l.length] 3)) := ⟨_, rfl⟩
  have gw0 : Grew w w0 := by rw [hw0]; exact ((((Below.refl _ _).alloc (Nat.le_refl _) _).alloc (by simp) _).alloc (by simp; omega) _).alloc (by simp; omega) _
  have hz0 : w0.heap.size = w.heap.size + 1 + 1 + 1 + 1 := by rw [hw0]; simp
  have k0 : Blk w0 w.heap.size 4 #[.bool ended] := by rw [hw0]; exact (((Blk.new _ _ _).alloc _).alloc _).alloc _
  have k1 : Blk w0 (w.heap.size + 1) 52 #[.slice none 0 0] := by rw [hw0]; exact ((Blk.at (by simp)).alloc _).alloc _
  have k2 : Blk w0 (w.heap.size + 1 + 1) 3 #[.int .i64 0] := by rw [hw0]; exact (Blk.at (by simp)).alloc _
  have k3 : Blk w0 (w.heap.size + 1 + 1 + 1) 3 #[.int .i64 l.length] := by rw [hw0]; exact Blk.at (by simp)
  try rw [← hw0]
  try rw [← hz0]
  have gb := grew_alloc w0 (.cells #[.slice a l.length c] 22)
  refine wpIn_iterW (gf := 56) (lb := #[.pointer (some ⟨w0.heap.size, 0, none⟩)]) rfl (enters_of Try.func56 (by kernel_rfl) rfl)
    (resync_iter l (.slice a l.length c) w0.heap.size w.heap.size _ (by have := gw0.size; simp; omega) (Blk.new _ _ _) (fun w' h => hb.grew (Below.trans (gw0.trans gb) h)) hlen)
    (fun A B e => keepsOthers_grew e) (fun A B C h1 h2 => ⟨h2.below h1.1 (by have := gw0.size; simp; omega), h1.2.ck h2⟩) (fun _ => rfl)
    (WalkI ended l w) (WalkX ended l w (.exit 0)) (fun pre A B h e => h.grew e) (fun pre A B h hc => h.ck hc (by have := gw0.size; simp; omega)) (fun _ _ _ _ h e => h.grew e) (fun _ _ _ _ h hc => h.ck hc (by have := gw0.size; simp; omega))
    ⟨_, [], 0, k0.grew gb, k1.grew gb, FoundsV.nil _ _, k2.grew gb, k3.grew gb, gw0.trans gb, Nat.zero_le _, Nat.le_refl _, Nat.le_refl _, by show _ = _; simp [nextPos_nil]⟩ ?round ?done ?stop
  case stop =>
    rintro cd pre W - ⟨rfl, v, ps, P, F, h1, h2, h3, h4, h5, h6⟩ hD
    obtain ⟨a9, n9, c9, rfl, hn9⟩ : ∃ a n c, v = .slice a n c ∧ True := by obtain ⟨a, c, e, _⟩ := (Sl.of_own h2.1).open; exact ⟨a, _, c, e, trivial⟩
    have c1 := h1.cell 0
    have c2 := h3.cell 0
    have c3 := h4.cell 0
    simp only [List.getElem?_toArray, List.getElem?_cons_zero] at c1 c2 c3
    clear h1 h3 h4
    gi_wp2
    refine wpIn_region_quiet open_wide ?_ (by kernel_rfl) (by kernel_rfl) (by kernel_rfl) ?_
    · rintro ⟨_, _, h⟩
      obtain ⟨_, h, _⟩ := h
      cases h
    · repeat (quiet_step (fail))
      refine wpQuiet_nil ?_
      rintro _ ⟨nq, rfl⟩
      gi_wp2
      rw [Exit.noGoto_ret]
      have hD2 : (W.drewN nq).heap[w.heap.size + 1 + 1 + 1 + 1 + 1]? = some (.deferred (some [])) := by simpa [hz0] using hD
      refine ⟨by simp, .inl ⟨_, _, rfl, run_takeDeferred hD2, ?_⟩⟩
      have hck2 : CK w.heap.size (W.drewN nq) _ := CK.putObj w.heap.size (W.drewN nq) _ _ (.deferred none) hD2 rfl (by omega)
      have gd : Grew W (W.drewN nq) := Drew.grew ⟨nq, rfl⟩
      refine ⟨_, results_tmp3 rfl _ _ _, ?_⟩
      rw [h6.out]
      exact ⟨_, rfl, ⟨ps, by first | rfl | simp, (h2.grew gd).ck hck2⟩, Below.trans (h5.trans gd) (hck2.toBelow (Nat.le_refl _))⟩
  case done =>
    rintro xs W hS ⟨v, ps, P, h0, h1, h2, h3, h4, h5, h7, h8, h9, h6⟩ hD
    have e9 : nextPos l xs = l.length := by omega
    rw [e9, List.drop_of_length_le (Nat.le_refl _), walkL_nil, List.append_nil] at h6
    clear h0 h7 h8 h9 hS
    obtain ⟨a9, n9, c9, rfl, hn9⟩ : ∃ a n c, v = .slice a n c ∧ True := by obtain ⟨a, c, e, _⟩ := (Sl.of_own h2.1).open; exact ⟨a, _, c, e, trivial⟩
    have c1 := h1.cell 0
    have c2 := h3.cell 0
    have c3 := h4.cell 0
    simp only [List.getElem?_toArray, List.getElem?_cons_zero] at c1 c2 c3
    clear h1 h3 h4
    gi_wp2
    refine wpIn_region_quiet open_wide ?_ (by kernel_rfl) (by kernel_rfl) (by kernel_rfl) ?_
    · rintro ⟨_, _, h⟩
      obtain ⟨_, h, _⟩ := h
      cases h
    · repeat (quiet_step (fail))
      refine wpQuiet_nil ?_
      rintro _ ⟨nq, rfl⟩
      gi_wp2
      rw [Exit.noGoto_ret]
      have hD2 : (W.drewN nq).heap[w.heap.size + 1 + 1 + 1 + 1 + 1]? = some (.deferred (some [])) := by simpa [hz0] using hD
      refine ⟨by simp, .inl ⟨_, _, rfl, run_takeDeferred hD2, ?_⟩⟩
      have hck2 : CK w.heap.size (W.drewN nq) _ := CK.putObj w.heap.size (W.drewN nq) _ _ (.deferred none) hD2 rfl (by omega)
      have gd : Grew W (W.drewN nq) := Drew.grew ⟨nq, rfl⟩
      refine ⟨_, results_tmp3 rfl _ _ _, ?_⟩
      rw [h6.out]
      exact ⟨_, rfl, ⟨ps, by first | rfl | simp, (h2.grew gd).ck hck2⟩, Below.trans (h5.trans gd) (hck2.toBelow (Nat.le_refl _))⟩
  case round =>
    rintro lp pre ⟨k, pv⟩ W hi ⟨hk1, hk2, hpv⟩
    obtain ⟨a1, n1, cp, rfl, hn1⟩ := hpv.shape
    simp only at hk1 hk2 hpv
    obtain ⟨X, hX⟩ : ∃ X, X = rdAt l k := ⟨_, rfl⟩
    rw [← hX] at hpv
    have HX := Lib.hid hX
    have HK2 := Lib.hid hk2
    have hwz : w.heap.size ≤ W.heap.size := by obtain ⟨_, _, _, _, _, _, _, _, h, _⟩ := hi; exact h.size
    have hga := grew_alloc W (.cells #[.int .i64 k, .int .i64 X.2.1, .int .u8 (X.1.1.toNat : Int), .slice a1 n1 cp, .int .i64 X.2.2] 89)
    simp only [encMk, ← hX]
    clear hX hk2
    gi_wp2
    refine ⟨keepsOthers_grew hga, hi.grew hga, ?_⟩
    rintro W2 hck hsz ⟨v, ps, P, h0, h1, h2, h3, h4, h5, h6, h7, h8, h9⟩
    have hs := hck.blk (Blk.new W 89 #[.int .i64 k, .int .i64 X.2.1, .int .u8 (X.1.1.toNat : Int), .slice a1 n1 cp, .int .i64 X.2.2])
    have hp2 := (hpv.grew hga).ck hck
    have hkeep : KeepB w0.heap.size 22 W W2 := fun cs hc => hck.blk (hc.grew hga)
    have hbel : Below w.heap.size W W2 := hck.below (hga.mono hwz) (by have := gw0.size; simp; omega)
    clear hi hga hck hsz hpv
    have hkl : k < l.length := hk1
    have hX2 : X.2.1 ≤ l.length - k := by
      rw [HX.out]; unfold rdAt fread
      split
      · rename_i h; have := (ferr_zero h).1; simp at this; simp; omega
      · simp
    have hn : nextPos l (pre ++ [(k, .slice a1 n1 cp)]) = k + max X.2.1 1 := by rw [nextPos_snoc]; simp only [← HX.out]
    have HN := Lib.hid hn
    rw [← HK2.out] at h6 h7 h8 h9
    have c0 := h0.cell 0
    have c1 := h1.cell 0
    have c2 := h3.cell 0
    have c3 := h4.cell 0
    have s0 := hs.cell 0
    have s1 := hs.cell 1
    have s2 := hs.cell 2
    have s3 := hs.cell 3
    have s4 := hs.cell 4
    simp only [List.getElem?_toArray, List.getElem?_cons_zero, List.getElem?_cons_succ] at c0 c1 c2 c3 s0 s1 s2 s3 s4
    have f1 := h1.frozen 0
    have f2 := h3.frozen 0
    have f3 := h4.frozen 0
    obtain ⟨D, hD⟩ : ∃ D, D = l.drop k := ⟨_, rfl⟩
    have hDne : D ≠ [] := by intro e; have : D.length = l.length - k := by rw [hD, List.length_drop]
                             rw [e] at this; simp at this; omega
    have hXD : X = fread D := by rw [HX.out, rdAt, hD]
    rw [← hD] at h9
    clear hn hk1
    by_cases he : ferr D = 0
    · have hw := walkL_ok (ended := ended) k he
      rw [fread_ok he] at hXD
      have hX1 : X.2.2 = 0 := by rw [hXD]
      have hX0 : X.2.1 = flen D + 9 := by rw [hXD]
      have hXf : X.1 = fof D := by rw [hXD]
      rw [hw, ← hX0, ← hXf, hD, List.drop_drop] at h9
      rw [hX1] at s4
      replace s4 : W2.cell? ⟨W.heap.size, 4, none⟩ = some (.int .i64 0) := s4
      obtain ⟨a9, c9, e9, -⟩ := (Sl.of_own h2.1).open
      have HO := Lib.hid h2
      have HP := Lib.hid hp2
      have HX0 := Lib.hid hX0
      have H9 := Lib.hid h9
      clear h9
      clear he hw hXD hX1 hX0 hXf hDne hD h2 hp2
      subst e9
      have hga := grew_alloc W2 (.cells #[.int .i64 k, .int .u8 (X.1.1.toNat : Int), .slice a1 n1 cp] 57)
      have hsl : Sl (W2.alloc (.cells #[.int .i64 k, .int .u8 (X.1.1.toNat : Int), .slice a1 n1 cp] 57)) (.slice (some ⟨W2.heap.size, 0, none⟩) 1 1) 1 3 (fdv ((k, X.1), .slice a1 n1 cp)) :=
        Sl.lit W2 57 (0, 0) #[.int .i64 k, .int .u8 (X.1.1.toNat : Int), .slice a1 n1 cp] 1 3 rfl (by unfold maxLen; omega)
      have HSL := Lib.hid hsl
      clear hsl
      gi_wp2_with (gi_at_builtin; refine wpListIn_pushF rfl _ _ rfl w.heap.size _ ps rfl (HO.out.grew hga) _ rfl ((k, X.1), .slice a1 n1 cp) HSL.out (HP.out.grew hga |>.mono (Nat.le_refl _)) (by omega) (by have := h5.size; simp; omega) ?_; intro v' w2 hown2 hB2 hgb; obtain ⟨a8, c8, rfl, -⟩ := (Sl.of_own hown2.1).open; have h1w := (h1.grew hga).kept hgb (blk_ne_row (h1.grew hga) (HO.out.grew hga).1 (by decide)); have c1w := h1w.cell 0; simp only [List.getElem?_toArray, List.getElem?_cons_zero] at c1w; have f1w := h1w.frozen 0)
      have kb : ∀ b t cs, Blk W2 b t cs → t ≠ 57 → b ≠ w.heap.size + 1 → Blk (w2.setCell ⟨w.heap.size + 1, 0, none⟩ (.slice a8 (ps.length + 1) c8)) b t cs := fun b t cs h ht hne =>
        ((h.grew hga).kept hgb (blk_ne_row (h.grew hga) (HO.out.grew hga).1 ht)).other ⟨w.heap.size + 1, 0, none⟩ _ hne
      have hl1 : (ps ++ [((k, X.1), (Value.slice a1 n1 cp))]).length = ps.length + 1 := by simp
      rw [hl1] at hown2
      have hmx : max X.2.1 1 = X.2.1 := by have := HX0.out; omega
      have gB : Below w.heap.size W2 (w2.setCell ⟨w.heap.size + 1, 0, none⟩ (.slice a8 (ps.length + 1) c8)) := grew_set (Below.trans (hga.mono h5.size) hB2) (by omega) _
      refine ⟨((keepsOthers_grew hga).trans (keepsOthers_app (HO.out.grew hga).1 hgb)).trans (KeepsOthers.setCell _ _ _), ⟨hbel.trans gB, fun cs hc => by have := hkeep cs (by rw [hz0]; exact hc); rw [hz0] at this; exact kb _ _ _ this (by decide) (by omega)⟩, ?_⟩
      refine ⟨_, ps ++ [((k, X.1), .slice a1 n1 cp)], P, kb _ _ _ h0 (by decide) (by omega), h1w.set 0 _, hown2.set h1w (by decide) (by decide) 0 _, kb _ _ _ h3 (by decide) (by omega), kb _ _ _ h4 (by decide) (by omega), Below.trans h5 gB, ?_, ?_, ?_, ?_⟩
      · rw [HN.out]; omega
      · rw [HN.out]; omega
      · rw [HN.out, List.length_append]; simp; omega
      · rw [HN.out, hmx]
        show _ = _
        rw [H9.out.out]; simp
    · have hXE : X = ((0, []), 0, ferr D) := by rw [hXD]; exact fread_fail rfl he
      obtain ⟨E, hE⟩ : ∃ E, E = ferr D := ⟨_, rfl⟩
      have hX1 : X.2.2 = E := by rw [hXE, hE]
      have hX0 : X.2.1 = 0 := by rw [hXE]
      have hmx : max X.2.1 1 = 1 := by rw [hX0]; rfl
      rw [hX1] at s4
      have hne : ((E : Int) == 0) = false := by simp; omega
      have HMX := Lib.hid hmx
      have HO := Lib.hid h2
      by_cases h4e : ferr D = 4 ∧ ended = false
      · obtain ⟨h4e, rfl⟩ := h4e
        have hw : walkL false D k = ([], 0, k) := walkL_short k h4e
        rw [hw, List.append_nil] at h9
        have H9 := Lib.hid h9
        have hE4 : E = 4 := by rw [hE, h4e]
        clear hX1 hX0 hmx hne he hw h9 hXD hXE hE hDne hD h2 hp2 h4e
        subst hE4
        replace s4 : W2.cell? ⟨W.heap.size, 4, none⟩ = some (.int .i64 4) := s4
        gi_wp2
        exact ⟨KeepsOthers.setCell _ _ _, rfl, v, ps, P, k, h1.other ⟨w.heap.size + 1 + 1 + 1, 0, none⟩ _ (by simp), HO.out.set h4 (by decide) (by decide) 0 _, h3.other ⟨w.heap.size + 1 + 1 + 1, 0, none⟩ _ (by simp), h4.set 0 _, grew_set h5 (by omega) _, H9.out⟩
      · have hw := walkL_pass (ended := ended) k hDne he (fun h => by cases ended with
          | true => rfl
          | false => exact absurd ⟨h, rfl⟩ h4e)
        rw [hw, hD, List.drop_drop] at h9
        have H9 := Lib.hid h9
        have hq : ((E : Int) == 4 && !ended) = false := by
          cases ended with
          | true => simp
          | false => simp; intro h; exact h4e ⟨by omega, rfl⟩
        clear hX1 hX0 hmx he hw h9 hXD hXE hE hDne hD h2 hp2 h4e
        cases h4q : ((E : Int) == 4) with
        | false =>
          clear hq
          gi_wp2
          exact ⟨KeepsOthers.setCell _ _ _, ⟨hbel.trans (grew_set (Below.refl _ _) (by omega) _), fun cs hc => by have := hkeep cs (by rw [hz0]; exact hc); rw [hz0] at this; exact this.other ⟨w.heap.size + 1 + 1, 0, none⟩ _ (by simp; omega)⟩,
            v, ps, P + 1, h0.other ⟨w.heap.size + 1 + 1, 0, none⟩ _ (by simp; omega), h1.other ⟨w.heap.size + 1 + 1, 0, none⟩ _ (by simp), HO.out.set h3 (by decide) (by decide) 0 _, h3.set 0 _, h4.other ⟨w.heap.size + 1 + 1, 0, none⟩ _ (by simp), grew_set h5 (by omega) _, by rw [HN.out, HMX.out]; omega, by rw [HN.out, HMX.out]; omega, by rw [HN.out, HMX.out]; omega, by
              rw [HN.out, HMX.out]
              show _ = _
              rw [H9.out.out]
              refine Prod.ext rfl (Prod.ext ?_ rfl)
              simp only; omega⟩
        | true =>
          obtain rfl : ended = true := by rw [h4q] at hq; simpa using hq
          clear hq
          gi_wp2
          exact ⟨KeepsOthers.setCell _ _ _, ⟨hbel.trans (grew_set (Below.refl _ _) (by omega) _), fun cs hc => by have := hkeep cs (by rw [hz0]; exact hc); rw [hz0] at this; exact this.other ⟨w.heap.size + 1 + 1, 0, none⟩ _ (by simp; omega)⟩,
            v, ps, P + 1, h0.other ⟨w.heap.size + 1 + 1, 0, none⟩ _ (by simp; omega), h1.other ⟨w.heap.size + 1 + 1, 0, none⟩ _ (by simp), HO.out.set h3 (by decide) (by decide) 0 _, h3.set 0 _, h4.other ⟨w.heap.size + 1 + 1, 0, none⟩ _ (by simp), grew_set h5 (by omega) _, by rw [HN.out, HMX.out]; omega, by rw [HN.out, HMX.out]; omega, by rw [HN.out, HMX.out]; omega, by
              rw [HN.out, HMX.out]
              show _ = _
              rw [H9.out.out]
              refine Prod.ext rfl (Prod.ext ?_ rfl)
              simp only; omega⟩
end Go.Proofs.Ytoinndlialimcaa
