/- Contracts of frame.Same, resync.Could and rescriptref13. -/
import Derived.Test.YtcibhkiddeggmaaFrR
namespace Go.Proofs.Ytcibhkiddeggmaa
open Go Go.RowKit Go.Shelf

/-- a variable of two cells that is laid and stored -/
theorem grew_store2 (w : World) (o : Obj) (x y : Value) : Grew w (((w.alloc o).setCell ⟨w.heap.size, 0, none⟩ x).setCell ⟨w.heap.size, 1, none⟩ y) := grew_set (grew_set (grew_alloc _ _) (Nat.le_refl _) _) (Nat.le_refl _) _
theorem blk_store2 (w : World) (t : TypeId) (a b x y : Value) : Blk (((w.alloc (.cells #[a, b] t)).setCell ⟨w.heap.size, 0, none⟩ x).setCell ⟨w.heap.size, 1, none⟩ y) w.heap.size t #[x, y] := ((Blk.new w t #[a, b]).set 0 x).set 1 y
theorem cell_set_ne {w : World} {a : Addr} {u : Value} (h : w.cell? a = some u) (p : Addr) (v : Value) (hne : a.block ≠ p.block) : (w.setCell p v).cell? a = some u := by
  rw [World.cell?_of_block (w := w) (heap_setCell_other w p a.block v hne)]; exact h
set_option maxHeartbeats 400000 in
theorem sequal_any (a b : List UInt8) (va vb : Value) (w : World) (ha : Bs w va a) (hb : Bs w vb b) :
    Calls Try.prog 33 #[va, vb] w fun e w' => e = .returned (.bool (a == b)) ∧ Drew w w' := by
  obtain ⟨aa, ca, rfl, a1, a2, -, ah⟩ := ha.open
  obtain ⟨ab, cb, rfl, b1, b2, -, bh⟩ := hb.open
  unfold maxLen at a2 b2
  by_cases hlen : a.length = b.length
  · have hl1 : ((a.length : Int) != (b.length : Int)) = false := by simp [hlen]
    have hl2 : b.length ≤ a.length ∧ a.length ≤ b.length := by omega
    have HL := Lib.hid hlen
    clear hlen
    go_enter Try.func33, Try.ntmps33
    go_wp2
    go_loopw [13] (fun i wr => (∃ k : Nat, k ≤ a.length ∧ i = .int .i64 k ∧ a.take k = b.take k) ∧ Drew w wr) (fun i _ => a.length - (intOf i).toNat)
    case atStart => exact ⟨⟨0, Nat.zero_le _, rfl, rfl⟩, 0, rfl⟩
    case round =>
      obtain ⟨⟨k, hk, rfl, htk⟩, n, rfl⟩ := hrel
      by_cases hlt : k < a.length
      · obtain ⟨b1, o1, rfl, h1⟩ := ah (by omega)
        obtain ⟨b2, o2, rfl, h2⟩ := bh (by omega)
        have c1 := h1 k _ (bv_get a k hlt)
        have c2 := h2 k _ (bv_get b k (by omega))
        have hn := u8_ne a[k] b[k]
        clear h1 h2 ah bh
        have HT := Lib.hid htk
        clear htk
        go_wp2
        go_quiet (fail)
        go_wp2
        · rename_i hne
          go_ret
          exact ⟨ret_bool (ne_of_get a b k hlt (by omega) (by simpa using hne)).symm, Drew.more ⟨_, rfl⟩ _⟩
        · rename_i hne
          go_roundw
          case rel => exact ⟨⟨k + 1, by omega, by go_num, take_succ_eq a b k hlt (by omega) HT.out (by simpa using hne)⟩, ⟨_, rfl⟩⟩
          case measure => simp [intOf]; omega
      · obtain rfl : k = a.length := by omega
        have HT := Lib.hid htk
        clear htk
        go_wp2
        go_ret
        have : a = b := by have h := HT.out; rwa [List.take_length, List.take_of_length_le (by omega)] at h
        exact ⟨ret_bool (by subst this; simp), _, rfl⟩
  · have hl1 : ((a.length : Int) != (b.length : Int)) = true := by simp; omega
    have HL := Lib.hid hlen
    clear hlen ah bh
    go_enter Try.func33, Try.ntmps33
    go_wp2
    go_ret
    exact ⟨ret_bool (ne_of_len a b HL.out).symm, 0, rfl⟩
theorem u8_eq (x y : UInt8) : ((x.toNat : Int) == (y.toNat : Int)) = (x == y) := by
  have := u8_ne x y
  have h1 : ((x.toNat : Int) == (y.toNat : Int)) = !((x.toNat : Int) != (y.toNat : Int)) := by simp [bne]
  have h2 : (x == y) = !(x != y) := by simp [bne]
  rw [h1, h2, this]
theorem bv_at (l : List UInt8) (i : Nat) (h : i < l.length) : (bv l)[i]? = some (.int .u8 (byteAt l i : Int)) := by
  rw [bv_get l i h]; unfold byteAt; rw [List.getD_eq_getElem?_getD, List.getElem?_eq_getElem h]; rfl
theorem frm_eq (f g : Frm) : (f == g) = (f.1 == g.1 && f.2 == g.2) := by
  obtain ⟨a, b⟩ := f; obtain ⟨c, d⟩ := g; rfl
theorem frsame_any (f g : Frm) (va vb : Value) (w : World) (ha : Bs w va f.2) (hb : Bs w vb g.2) :
    Calls Try.prog 13 #[frV f.1 va, frV g.1 vb] w fun e w' => e = .returned (.bool (f == g)) ∧ Grew w w' := by
  rw [frm_eq]
  obtain ⟨a, n, c, rfl, hn⟩ := bs_shape ha
  obtain ⟨a', n', c', rfl, hn'⟩ := bs_shape hb
  have he := u8_eq f.1 g.1
  have G1 : Grew w ((w.alloc (.cells #[.int .u8 (f.1.toNat : Int), .slice a n c] 24)).alloc (.cells #[.int .u8 (g.1.toNat : Int), .slice a' n' c'] 24)) := (grew_alloc _ _).trans (grew_alloc _ _)
  have ha1 := ha.grew G1
  have hb1 := hb.grew G1
  have HA := Lib.hid ha1
  have HB := Lib.hid hb1
  clear ha hb ha1 hb1
  cases h : (f.1 == g.1) with
  | false =>
    rw [h] at he
    clear h
    go_enter Try.func13, Try.ntmps13
    go_wp2
    try go_quiet (fail)
    go_wp2
    go_ret
    exact ⟨by simp, G1⟩
  | true =>
    rw [h] at he
    clear h
    go_enter Try.func13, Try.ntmps13
    go_wp2_with fail
    refine (sequal_any _ _ _ _ _ HA.out HB.out).mono ?_
    rintro e w1 ⟨rfl, D1⟩
    go_wp2
    go_ret
    exact ⟨by simp, Grew.trans G1 D1.grew⟩
theorem r13same_any (f g : Frm) (va vb : Value) (w : World) (ha : Bs w va f.2) (hb : Bs w vb g.2) :
    Calls Try.prog 15 #[frV f.1 va, frV g.1 vb] w fun e w' => e = .returned (.bool (f == g)) ∧ Grew w w' := by
  rw [frm_eq]
  obtain ⟨a, n, c, rfl, hn⟩ := bs_shape ha
  obtain ⟨a', n', c', rfl, hn'⟩ := bs_shape hb
  have he := u8_eq f.1 g.1
  have G1 : Grew w ((w.alloc (.cells #[.int .u8 (f.1.toNat : Int), .slice a n c] 24)).alloc (.cells #[.int .u8 (g.1.toNat : Int), .slice a' n' c'] 24)) := (grew_alloc _ _).trans (grew_alloc _ _)
  have ha1 := ha.grew G1
  have hb1 := hb.grew G1
  have HA := Lib.hid ha1
  have HB := Lib.hid hb1
  clear ha hb ha1 hb1
  cases h : (f.1 == g.1) with
  | false =>
    rw [h] at he
    clear h
    go_enter Try.func15, Try.ntmps15
    go_wp2
    try go_quiet (fail)
    go_wp2
    go_ret
    exact ⟨by simp, G1⟩
  | true =>
    rw [h] at he
    clear h
    go_enter Try.func15, Try.ntmps15
    go_wp2_with fail
    refine (same_any _ _ _ _ _ HA.out HB.out).mono ?_
    rintro e w1 ⟨rfl, D1⟩
    go_wp2
    go_ret
    exact ⟨by simp, Grew.trans G1 D1.grew⟩
set_option maxHeartbeats 1000000 in
theorem r13put_any (f : Frm) (v : Value) (w : World) (hb : Bs w v f.2) (hlen : f.2.length ≤ 8192) :
    Calls Try.prog 11 #[frV f.1 v] w fun e w' => ∃ v', e = .returned v' ∧ OwnB w' w.heap.size v' (fput f) ∧ Grew w w' := by
  obtain ⟨a, c, rfl⟩ := bs_len hb
  have h2 := u8lt f.1
  have H := Lib.hid hb
  clear hb
  go_enter Try.func11, Try.ntmps11
  go_wp2_with fail
  obtain ⟨w1, hw1⟩ : ∃ w1, w1 = w.alloc (.cells #[Value.int .u8 (f.1.toNat : Int), .slice a f.2.length c] 24) := ⟨_, rfl⟩
  have hz1 : w1.heap.size = w.heap.size + 1 := by rw [hw1, World.size_alloc]
  rw [← hw1, ← hz1]
  have g1 : Grew w w1 := by rw [hw1]; exact grew_alloc _ _
  have l1 := bs_lit w1 (fhead f) #[Value.int .u8 (f.1.toNat : Int), Value.int .u8 ((f.2.length : Int) % 256), Value.int .u8 ((f.2.length : Int) / 256)] 3 rfl (by rw [fhead_bv f hlen]) (by omega)
  obtain ⟨w2, hw2⟩ : ∃ w2, w2 = w1.alloc (.cells #[Value.int .u8 (f.1.toNat : Int), Value.int .u8 ((f.2.length : Int) % 256), Value.int .u8 ((f.2.length : Int) / 256)] 5) := ⟨_, rfl⟩
  have hz2 : w2.heap.size = w1.heap.size + 1 := by rw [hw2, World.size_alloc]
  rw [← hw2] at l1 ⊢
  have g2 : Grew w1 w2 := by rw [hw2]; exact grew_alloc _ _
  have l2 := bs_lit w2 [197, 154] #[Value.int .u8 197, Value.int .u8 154] 2 rfl (by simp [bv]) (by omega)
  obtain ⟨w3, hw3⟩ : ∃ w3, w3 = w2.alloc (.cells #[Value.int .u8 197, Value.int .u8 154] 5) := ⟨_, rfl⟩
  rw [← hw3] at l2 ⊢
  have g3 : Grew w2 w3 := by rw [hw3]; exact grew_alloc _ _
  have G3 : Grew w w3 := (g1.trans g2).trans g3
  have fl : (fhead f).length = 3 := rfl
  rw [hz2] at l2
  refine (join_any (fhead f) f.2 _ _ _ (l1.grew g3) (H.out.grew G3) (by rw [fl]; omega)).mono ?_
  rintro e w5 ⟨v5, rfl, ho5, g5⟩
  have h5 := Sl.of_own ho5
  obtain ⟨a5, n5, c5, rfl, hn5⟩ := bs_shape h5
  clear l1 hz1 hz2 hw1 hw2 hw3
  go_wp2_with fail
  refine (rseal_any _ _ _ h5 (by rw [List.length_append]; omega)).mono ?_
  rintro e w6 ⟨v6, rfl, ho6, g6⟩
  have G6 : Grew w3 w6 := g5.trans g6
  obtain ⟨S, hS⟩ : ∃ S, S = cseal (fhead f ++ f.2) := ⟨_, rfl⟩
  have hSl : S.length = f.2.length + 7 := by rw [hS, cseal_length, List.length_append]; omega
  have hfp : fput f = [197, 154] ++ S := by rw [hS, fput]
  rw [← hS] at ho6
  have HF := Lib.hid hfp
  have h6 := Sl.of_own ho6
  obtain ⟨a6, n6, c6, rfl, hn6⟩ := bs_shape h6
  clear h5 ho5 ho6 hfp hS
  go_wp2_with fail
  refine (join_any [197, 154] S _ _ _ (l2.grew G6) h6 (by simp; omega)).mono ?_
  rintro e w8 ⟨v8, rfl, ho8, g8⟩
  go_wp2
  go_ret
  have G8 : Grew w w6 := G3.trans G6
  exact ⟨_, rfl, by rw [HF.out]; exact own_mono ho8 G8.size, G8.trans g8⟩
set_option maxRecDepth 100000 in
set_option maxHeartbeats 2000000 in
theorem r13read_any (l : List UInt8) (v : Value) (w : World) (hb : Bs w v l) (hlen : l.length ≤ 1000000000) :
    Calls Try.prog 14 #[v] w fun e w' => ∃ v', e = .returned (.tuple #[frV (fread l).1.1 v', .int .i64 (fread l).2.1, .int .i64 (fread l).2.2]) ∧ PayV w' w.heap.size v' (fread l).1.2 ∧ Grew w w' := by
  obtain ⟨R, hR⟩ : ∃ R, R = fread l := ⟨_, rfl⟩
  rw [← hR]
  obtain ⟨a, c, rfl, h1, h2, -, h4⟩ := hb.open
  unfold maxLen at h2
  have HR := Lib.hid hR
  have HB := Lib.hid hb
  clear hR hb
  by_cases hl0 : l.length = 0
  · have hl0' : decide ((l.length : Int) > 0) = false := by rw [hl0]; rfl
    have hl1' : decide ((l.length : Int) > 1) = false := by rw [hl0]; rfl
    have hl5' : decide ((l.length : Int) < 5) = true := by rw [hl0]; rfl
    have hf : ferr l = 4 := by rw [List.eq_nil_of_length_eq_zero hl0]; exact ferr_nil
    have HF := Lib.hid hf
    have hz : l.length ≤ 0 := by omega
    clear hf hl0 h4 hl0' hl1' hl5'
    go_enter Try.func14, Try.ntmps14
    go_wp2
    refine bodyPost_ret (results_ctt rfl _ _ ⟨w.heap.size, 0, none⟩ _ _ _ rfl rfl rfl (loadVar_frame _ _ _ rfl (Blk.new _ _ _))) rfl ?_
    rw [HR.out, fread_fail (e := 4) (HF.out) (by omega)]
    exact ⟨_, rfl, PayV.nil _ _, grew_alloc _ _⟩
  have hp0 : 0 < l.length := by omega
  obtain ⟨b, o, rfl, hc⟩ := h4 (by omega)
  have c0 := hc 0 _ (bv_at l 0 (by omega))
  rw [Nat.add_zero] at c0
  have u0 : (byteAt l 0 : Int) < 256 := by have := byteAt_lt l 0; omega
  by_cases hx : byteAt l 0 = 197
  case neg =>
    have hx1 : ((byteAt l 0 : Int) != 197) = true := by simp; omega
    have hf : ferr l = 3 := by unfold ferr; rw [if_pos (.inl ⟨by omega, hx⟩)]
    have HF := Lib.hid hf
    have c0' := below_ext (grew_alloc w (.cells #[.int .u8 0, .slice none 0 0] 24)) _ _ c0
    clear hf hx hc h4 hl0
    go_enter Try.func14, Try.ntmps14
    go_wp2
    refine bodyPost_ret (results_ctt rfl _ _ ⟨w.heap.size, 0, none⟩ _ _ _ rfl rfl rfl (loadVar_frame _ _ _ rfl (Blk.new _ _ _))) rfl ?_
    rw [HR.out, fread_fail (e := 3) (HF.out) (by omega)]
    exact ⟨_, rfl, PayV.nil _ _, grew_alloc _ _⟩
  have hx0 : ((byteAt l 0 : Int) != 197) = false := by simp [hx]
  have HX := Lib.hid hx
  have c0' := below_ext (grew_alloc w (.cells #[.int .u8 0, .slice none 0 0] 24)) _ _ c0
  by_cases hl1 : l.length = 1
  · have hl1' : decide ((l.length : Int) > 1) = false := by rw [hl1]; rfl
    have hl5' : decide ((l.length : Int) < 5) = true := by rw [hl1]; rfl
    have hf : ferr l = 4 := by
      unfold ferr; rw [if_neg, if_pos (by omega)]
      rintro (⟨_, h⟩ | ⟨h, _⟩)
      · exact h (hx)
      · omega
    have HF := Lib.hid hf
    clear hf hl1 hx hl0 h4 hc
    go_enter Try.func14, Try.ntmps14
    go_wp2
    refine bodyPost_ret (results_ctt rfl _ _ ⟨w.heap.size, 0, none⟩ _ _ _ rfl rfl rfl (loadVar_frame _ _ _ rfl (Blk.new _ _ _))) rfl ?_
    rw [HR.out, fread_fail (e := 4) (HF.out) (by omega)]
    exact ⟨_, rfl, PayV.nil _ _, grew_alloc _ _⟩
  have hp1 : 1 < l.length := by omega
  have c1 := hc 1 _ (bv_at l 1 (by omega))
  have c1' := below_ext (grew_alloc w (.cells #[.int .u8 0, .slice none 0 0] 24)) _ _ c1
  have u1 : (byteAt l 1 : Int) < 256 := by have := byteAt_lt l 1; omega
  by_cases hy : byteAt l 1 = 154
  case neg =>
    have hx1 : ((byteAt l 1 : Int) != 154) = true := by simp; omega
    have hf : ferr l = 3 := by unfold ferr; rw [if_pos (.inr ⟨by omega, hy⟩)]
    have HF := Lib.hid hf
    clear hf hx hc h4 hl0 hl1 hy
    go_enter Try.func14, Try.ntmps14
    go_wp2
    refine bodyPost_ret (results_ctt rfl _ _ ⟨w.heap.size, 0, none⟩ _ _ _ rfl rfl rfl (loadVar_frame _ _ _ rfl (Blk.new _ _ _))) rfl ?_
    rw [HR.out, fread_fail (e := 3) (HF.out) (by omega)]
    exact ⟨_, rfl, PayV.nil _ _, grew_alloc _ _⟩
  have hy0 : ((byteAt l 1 : Int) != 154) = false := by simp [hy]
  have hform : ¬ ((0 < l.length ∧ byteAt l 0 ≠ 197) ∨ (1 < l.length ∧ byteAt l 1 ≠ 154)) := by
    rintro (⟨_, h⟩ | ⟨_, h⟩)
    · exact h (hx)
    · exact h (hy)
  by_cases hl5 : l.length < 5
  · have hz : l.length < 5 := hl5
    have hf : ferr l = 4 := by unfold ferr; rw [if_neg hform, if_pos hl5]
    have HF := Lib.hid hf
    clear hf hx hc h4 hl0 hl1 hy hform hl5
    go_enter Try.func14, Try.ntmps14
    go_wp2
    refine bodyPost_ret (results_ctt rfl _ _ ⟨w.heap.size, 0, none⟩ _ _ _ rfl rfl rfl (loadVar_frame _ _ _ rfl (Blk.new _ _ _))) rfl ?_
    rw [HR.out, fread_fail (e := 4) (HF.out) (by omega)]
    exact ⟨_, rfl, PayV.nil _ _, grew_alloc _ _⟩
  have hp5 : 5 ≤ l.length := by omega
  have c2 := hc 2 _ (bv_at l 2 (by omega))
  have c3 := hc 3 _ (bv_at l 3 (by omega))
  have c4 := hc 4 _ (bv_at l 4 (by omega))
  have c3' := below_ext (grew_alloc w (.cells #[.int .u8 0, .slice none 0 0] 24)) _ _ c3
  have c4' := below_ext (grew_alloc w (.cells #[.int .u8 0, .slice none 0 0] 24)) _ _ c4
  have u3 : (byteAt l 3 : Int) < 256 := by have := byteAt_lt l 3; omega
  have u4 : (byteAt l 4 : Int) < 256 := by have := byteAt_lt l 4; omega
  have eF : flen l = byteAt l 3 + 256 * byteAt l 4 := rfl
  obtain ⟨F, hF⟩ : ∃ F, F = flen l := ⟨_, rfl⟩
  have hFi : (byteAt l 3 : Int) + 256 * (byteAt l 4 : Int) = (F : Int) := by rw [hF, eF]; omega
  have hFl : F < 65792 := by omega
  have hfe : ferr l = if 8192 < F then 2 else if l.length < F + 9 then 4 else if cseal ((l.drop 2).take (F + 3)) = (l.drop 2).take (F + 7) then 0 else 12 := by
    rw [hF]
    conv => lhs; unfold ferr
    rw [if_neg hform, if_neg hl5]
  have HE := Lib.hid hfe
  have HF := Lib.hid hF
  have HL5 := Lib.hid hl5
  have HY4 := Lib.hid hy
  clear hfe hF hx hy hl0 hl1 hform hl5 h4 eF
  go_enter Try.func14, Try.ntmps14
  go_wp2
  go_quiet (fail)
  clear hFi
  have G0 : Grew w ((w.alloc (.cells #[.int .u8 0, .slice none 0 0] 24)).drewN nq) := (grew_alloc _ _).trans (Drew.grew ⟨_, rfl⟩)
  have B0 := (Blk.new w 24 #[.int .u8 0, .slice none 0 0]).drewN nq
  clear c0 c1 c0' c1' c3 c3' c4 c4'
  generalize hw0 : (w.alloc (.cells #[.int .u8 0, .slice none 0 0] 24)).drewN nq = w0 at G0 B0 ⊢
  clear hw0
  obtain ⟨x0, x1, x2, x3⟩ := cells2 B0
  by_cases f1 : 8192 < F
  · have d1 : decide ((F : Int) > 8192) = true := by simp; omega
    have hf : ferr l = 2 := by rw [HE.out, if_pos f1]
    have HFF := Lib.hid hf
    clear hf f1
    go_wp2
    refine bodyPost_ret (results_ctt rfl _ _ ⟨w.heap.size, 0, none⟩ _ _ _ rfl rfl rfl (loadVar_frame _ _ _ rfl ((B0.set 0 (.int .u8 0)).set 1 (.slice none 0 0)))) rfl ?_
    rw [HR.out, fread_fail HFF.out (by omega)]
    exact ⟨_, rfl, PayV.nil _ _, grew_set (grew_set G0 (Nat.le_refl _) _) (Nat.le_refl _) _⟩
  have d1 : decide ((F : Int) > 8192) = false := by simp; omega
  by_cases f2 : l.length < F + 9
  · have d2 : decide ((l.length : Int) < (F : Int) + 9) = true := by simp; omega
    have hf : ferr l = 4 := by rw [HE.out, if_neg f1, if_pos f2]
    have HFF := Lib.hid hf
    clear hf f1 f2
    go_wp2
    refine bodyPost_ret (results_ctt rfl _ _ ⟨w.heap.size, 0, none⟩ _ _ _ rfl rfl rfl (loadVar_frame _ _ _ rfl ((B0.set 0 (.int .u8 0)).set 1 (.slice none 0 0)))) rfl ?_
    rw [HR.out, fread_fail HFF.out (by omega)]
    exact ⟨_, rfl, PayV.nil _ _, grew_set (grew_set G0 (Nat.le_refl _) _) (Nat.le_refl _) _⟩
  have d2 : decide ((l.length : Int) < (F : Int) + 9) = false := by simp; omega
  have y2 := below_ext G0 _ _ c2
  have hb0 := HB.out.grew G0
  have hcut : Bs w0 (.slice (some ⟨b, o + 5, none⟩) F (c - 5)) ((l.drop 5).take F) := by
    have := bs_cut hb0 5 (F + 5) (by omega) (by omega)
    rwa [show F + 5 - 5 = F by omega] at this
  obtain ⟨Y, hY⟩ : ∃ Y, Y = (l.drop 5).take F := ⟨_, rfl⟩
  have hYl : Y.length = F := by rw [hY]; simp; omega
  rw [← hY] at hcut
  have kj : ∀ W, Grew w0 W → Calls Try.prog 29 #[.slice (some ⟨b, o + 5, none⟩) F (c - 5), .slice none 0 0] W fun e W' => ∃ v, e = .returned v ∧ PayV W' w.heap.size v Y ∧ Grew w0 W' ∧ Grew W W' := fun W hW => by
    refine (join_any Y [] _ _ W (hcut.grew hW) (Sl.nil _ 1) (by rw [hYl]; simp; omega)).mono ?_
    rintro e W' ⟨v, rfl, ho, g⟩
    rw [List.append_nil] at ho
    exact ⟨v, rfl, (PayV.of_own ho).mono (by have := G0.size; have := hW.size; omega), hW.trans g, g⟩
  have KJ := Lib.hid kj
  have HY := Lib.hid hY
  have HYl := Lib.hid hYl
  have HB0 := Lib.hid hb0
  clear kj hcut hc hY hYl hb0
  have z2 : (2 : Int) < (l.length : Int) := by omega
  have z6 : ¬ c = 5 := by omega
  have z7 : ((5 : Int) + (F : Int)).toNat = F + 5 := by omega
  have z3 : (5 : Int) + (F : Int) ≤ (c : Int) := by omega
  have z4 : (5 : Int) ≤ (5 : Int) + (F : Int) := by omega
  have z5 : IntKind.i64.wrap ((5 : Int) + (F : Int)) = (5 : Int) + (F : Int) := by rw [IntKind.wrap_i64]; omega
  go_wp2
  have hbw : b ≠ w0.heap.size := fun e => by have := cell_lt y2; rw [e] at this; exact Nat.lt_irrefl _ this
  go_region_held3 (fun W => W.cell? ⟨b, o + 2, none⟩ = some (.int .u8 (byteAt l 2 : Int))) (first | go_keep | exact hk | exact hk2) ((go_at_call 29; first | (refine (KJ.out w0.drew (Drew.grew ⟨1, rfl⟩)).mono ?_; rintro e5 W5 ⟨v5, rfl, hp5, g05, g5⟩; obtain ⟨a5, n5, c5, rfl, hn5⟩ := bs_shape hp5.1; have hk := (below_ext g05) _ _ y2) | (refine (KJ.out (w0.drew.alloc (.cells #[.int .u8 0, .slice none 0 0] 24)) (Grew.trans (Drew.grew ⟨1, rfl⟩) (grew_alloc _ _))).mono ?_; rintro e5 W5 ⟨v5, rfl, hp5, g05, g5⟩; obtain ⟨a5, n5, c5, rfl, hn5⟩ := bs_shape hp5.1; have hk := (below_ext g05) _ _ y2; have hk2 := cell_set_ne (cell_set_ne hk ⟨w0.heap.size, 0, none⟩ (.int .u8 (byteAt l 2 : Int)) hbw) ⟨w0.heap.size, 1, none⟩ (.slice a5 n5 c5) hbw; obtain ⟨t0, t1, t2, t3⟩ := cells2 (show Blk W5 w0.heap.size 24 #[.int .u8 0, .slice none 0 0] from (Blk.new w0.drew 24 #[.int .u8 0, .slice none 0 0]).grew g5))))
  · have A1 := Blk.new W5 24 #[.int .u8 (byteAt l 2 : Int), .slice a5 n5 c5]
    have A2 := hp5.grew (grew_alloc W5 (.cells #[.int .u8 (byteAt l 2 : Int), .slice a5 n5 c5] 24))
    have A3 := Grew.trans g05 (grew_alloc W5 (.cells #[.int .u8 (byteAt l 2 : Int), .slice a5 n5 c5] 24))
    have A4 : w.heap.size < W5.heap.size := Nat.lt_of_lt_of_le B0.lt g05.size
    clear hk hp5 x0 x1 x2 x3
    generalize W5.alloc (.cells #[.int .u8 (byteAt l 2 : Int), .slice a5 n5 c5] 24) = V at A1 A2 A3 ⊢
    generalize W5.heap.size = q at A1 A4 ⊢
    clear g05 g5
    have GV : Grew w V := G0.trans A3
    have BV := B0.grew A3
    have hcutV : Bs V (.slice (some ⟨b, o, none⟩) (F + 9) c) (l.take (F + 9)) := bs_take (HB0.out.grew A3) (F + 9) (by omega)
    obtain ⟨T, hT⟩ : ∃ T : UInt8, T = l.getD 2 0 := ⟨_, rfl⟩
    have hT2 : byteAt l 2 = T.toNat := by rw [hT]; rfl
    rw [hT2] at A1 ⊢
    obtain ⟨f, hf⟩ : ∃ f : Frm, f = (T, Y) := ⟨_, rfl⟩
    have hff : f = fof l := by rw [hf, hT, HY.out, HF.out]; rfl
    have kp : ∀ W, Grew V W → Calls Try.prog 11 #[frV T (.slice a5 n5 c5)] W fun e W' => ∃ v', e = .returned v' ∧ OwnB W' W.heap.size v' (fput f) ∧ Grew W W' := fun W hW => by
      have := r13put_any f (.slice a5 n5 c5) W (by rw [hf]; exact A2.1.grew hW) (by rw [hf, HYl.out]; omega)
      rw [hf] at this ⊢; exact this
    have hfl : (fput f).length = F + 9 := by rw [fput_length, hf, HYl.out]
    have hiff := fput_iff (l := l) (by rw [← HF.out]; omega) HX.out HY4.out
    rw [← HF.out, ← hff] at hiff
    have KP := Lib.hid kp
    have HCUT := Lib.hid hcutV
    have HIFF := Lib.hid hiff
    have HA2 := Lib.hid A2
    have HFF := Lib.hid hff
    have HFP := Lib.hid hf
    obtain ⟨s0, s1, s2, s3⟩ := cells2 A1
    obtain ⟨x0, x1, x2, x3⟩ := cells2 BV
    have z8 : (0 : Int) ≤ (F : Int) + 9 := by omega
    have z9 : (F : Int) + 9 ≤ (c : Int) := by omega
    have z10 : IntKind.i64.wrap ((F : Int) + 9) = (F : Int) + 9 := by rw [IntKind.wrap_i64]; omega
    have z11 : ((F : Int) + 9).toNat = F + 9 := by omega
    clear kp hcutV hiff A2 hff hf hT hT2 z2 z3 z4 z5 z6 z7 hfl
    go_wp2
    go_region_held3 (fun W => W.cell? ⟨q, 0, none⟩ = some (.int .u8 (T.toNat : Int)) ∧ W.cell? ⟨q, 1, none⟩ = some (.slice a5 n5 c5)) (first | go_keep | exact ⟨hk0, hk1⟩ | exact ⟨hk2, hk3⟩) ((first | (go_at_call 11; refine (KP.out V.drew (Drew.grew ⟨1, rfl⟩)).mono ?_; rintro e6 W6 ⟨v6, rfl, ho6, g6⟩; have h6 := Sl.of_own ho6; obtain ⟨a6, n6, c6, rfl, hn6⟩ := bs_shape h6; have G6 : Grew V W6 := Grew.trans (Drew.grew ⟨1, rfl⟩) g6; have hk0 := (below_ext G6) _ _ s0; have hk1 := (below_ext G6) _ _ s1; clear ho6) | (go_at_call 10; refine (same_any (fput f) (l.take (F + 9)) _ _ _ h6 (HCUT.out.grew G6)).mono ?_; rintro e7 W7 ⟨rfl, D7⟩; have hk2 := (below_ext D7.grew) _ _ hk0; have hk3 := (below_ext D7.grew) _ _ hk1)))
    have G7 : Grew V W7 := G6.trans D7.grew
    have BW := BV.grew G7
    have GW : Grew w W7 := GV.trans G7
    have hAW := HA2.out.grew G7
    obtain ⟨x0, x1, x2, x3⟩ := cells2 BW
    have E1 := HE.out
    rw [if_neg f1, if_neg f2] at E1
    by_cases hq : fput f = l.take (F + 9)
    · have hb1 : (fput f == l.take (F + 9)) = true := by rw [hq]; simp
      rw [if_pos (HIFF.out.1 hq)] at E1
      have hRR : R = (f, F + 9, 0) := by rw [HR.out]; unfold fread; rw [if_pos E1, HF.out, HFF.out]
      have HRR := Lib.hid hRR
      have HAW := Lib.hid hAW
      rw [hb1]
      clear hq E1 hRR hAW hb1 h6
      go_wp2
      refine bodyPost_ret (results_ctt rfl _ _ ⟨w.heap.size, 0, none⟩ _ _ _ rfl rfl rfl (loadVar_frame _ _ _ rfl ((BW.set 0 (.int .u8 (T.toNat : Int))).set 1 (.slice a5 n5 c5)))) rfl ?_
      rw [HRR.out, HFP.out]
      exact ⟨_, rfl, HAW.out.fr (((Fr.refl (· = w.heap.size) W7).set w.heap.size 0 (.int .u8 (T.toNat : Int)) (fun _ => rfl)).set w.heap.size 1 (.slice a5 n5 c5) (fun _ => rfl)) (HAW.out.ne BW (by decide)), grew_set (grew_set GW (Nat.le_refl _) _) (Nat.le_refl _) _⟩
    · have hb1 : (fput f == l.take (F + 9)) = false := by simpa using hq
      rw [if_neg (fun h => hq (HIFF.out.2 h))] at E1
      have HE1 := Lib.hid E1
      rw [hb1]
      clear hq E1 hAW hb1 h6
      go_wp2
      refine bodyPost_ret (results_ctt rfl _ _ ⟨w.heap.size, 0, none⟩ _ _ _ rfl rfl rfl (loadVar_frame _ _ _ rfl ((BW.set 0 (.int .u8 0)).set 1 (.slice none 0 0)))) rfl ?_
      rw [HR.out, fread_fail HE1.out (by omega)]
      exact ⟨_, rfl, PayV.nil _ _, grew_set (grew_set GW (Nat.le_refl _) _) (Nat.le_refl _) _⟩
  · have A0 : Blk W5 w0.heap.size 24 #[.int .u8 0, .slice none 0 0] := (Blk.new w0.drew 24 #[.int .u8 0, .slice none 0 0]).grew g5
    have A1 := (A0.set 0 (.int .u8 (byteAt l 2 : Int))).set 1 (.slice a5 n5 c5)
    have A2 := hp5.fr (((Fr.refl (· = w0.heap.size) W5).set w0.heap.size 0 (.int .u8 (byteAt l 2 : Int)) (fun _ => rfl)).set w0.heap.size 1 (.slice a5 n5 c5) (fun _ => rfl)) (hp5.ne A0 (by decide))
    have A3 : Grew w0 ((W5.setCell ⟨w0.heap.size, 0, none⟩ (.int .u8 (byteAt l 2 : Int))).setCell ⟨w0.heap.size, 1, none⟩ (.slice a5 n5 c5)) := grew_set (grew_set g05 (Nat.le_refl _) _) (Nat.le_refl _) _
    have A4 : w.heap.size < w0.heap.size := B0.lt
    clear hk hk2 A0 t0 t1 t2 t3 hbw x0 x1 x2 x3 hp5
    generalize (W5.setCell ⟨w0.heap.size, 0, none⟩ (.int .u8 (byteAt l 2 : Int))).setCell ⟨w0.heap.size, 1, none⟩ (.slice a5 n5 c5) = V at A1 A2 A3 ⊢
    clear g05 g5
    generalize w0.heap.size = q at A1 A4 ⊢
    have GV : Grew w V := G0.trans A3
    have BV := B0.grew A3
    have hcutV : Bs V (.slice (some ⟨b, o, none⟩) (F + 9) c) (l.take (F + 9)) := bs_take (HB0.out.grew A3) (F + 9) (by omega)
    obtain ⟨T, hT⟩ : ∃ T : UInt8, T = l.getD 2 0 := ⟨_, rfl⟩
    have hT2 : byteAt l 2 = T.toNat := by rw [hT]; rfl
    rw [hT2] at A1 ⊢
    obtain ⟨f, hf⟩ : ∃ f : Frm, f = (T, Y) := ⟨_, rfl⟩
    have hff : f = fof l := by rw [hf, hT, HY.out, HF.out]; rfl
    have kp : ∀ W, Grew V W → Calls Try.prog 11 #[frV T (.slice a5 n5 c5)] W fun e W' => ∃ v', e = .returned v' ∧ OwnB W' W.heap.size v' (fput f) ∧ Grew W W' := fun W hW => by
      have := r13put_any f (.slice a5 n5 c5) W (by rw [hf]; exact A2.1.grew hW) (by rw [hf, HYl.out]; omega)
      rw [hf] at this ⊢; exact this
    have hfl : (fput f).length = F + 9 := by rw [fput_length, hf, HYl.out]
    have hiff := fput_iff (l := l) (by rw [← HF.out]; omega) HX.out HY4.out
    rw [← HF.out, ← hff] at hiff
    have KP := Lib.hid kp
    have HCUT := Lib.hid hcutV
    have HIFF := Lib.hid hiff
    have HA2 := Lib.hid A2
    have HFF := Lib.hid hff
    have HFP := Lib.hid hf
    obtain ⟨s0, s1, s2, s3⟩ := cells2 A1
    obtain ⟨x0, x1, x2, x3⟩ := cells2 BV
    have z8 : (0 : Int) ≤ (F : Int) + 9 := by omega
    have z9 : (F : Int) + 9 ≤ (c : Int) := by omega
    have z10 : IntKind.i64.wrap ((F : Int) + 9) = (F : Int) + 9 := by rw [IntKind.wrap_i64]; omega
    have z11 : ((F : Int) + 9).toNat = F + 9 := by omega
    clear kp hcutV hiff A2 hff hf hT hT2 z2 z3 z4 z5 z6 z7 hfl
    go_wp2
    go_region_held3 (fun W => W.cell? ⟨q, 0, none⟩ = some (.int .u8 (T.toNat : Int)) ∧ W.cell? ⟨q, 1, none⟩ = some (.slice a5 n5 c5)) (first | go_keep | exact ⟨hk0, hk1⟩ | exact ⟨hk2, hk3⟩) ((first | (go_at_call 11; refine (KP.out V.drew (Drew.grew ⟨1, rfl⟩)).mono ?_; rintro e6 W6 ⟨v6, rfl, ho6, g6⟩; have h6 := Sl.of_own ho6; obtain ⟨a6, n6, c6, rfl, hn6⟩ := bs_shape h6; have G6 : Grew V W6 := Grew.trans (Drew.grew ⟨1, rfl⟩) g6; have hk0 := (below_ext G6) _ _ s0; have hk1 := (below_ext G6) _ _ s1; clear ho6) | (go_at_call 10; refine (same_any (fput f) (l.take (F + 9)) _ _ _ h6 (HCUT.out.grew G6)).mono ?_; rintro e7 W7 ⟨rfl, D7⟩; have hk2 := (below_ext D7.grew) _ _ hk0; have hk3 := (below_ext D7.grew) _ _ hk1)))
    have G7 : Grew V W7 := G6.trans D7.grew
    have BW := BV.grew G7
    have GW : Grew w W7 := GV.trans G7
    have hAW := HA2.out.grew G7
    obtain ⟨x0, x1, x2, x3⟩ := cells2 BW
    have E1 := HE.out
    rw [if_neg f1, if_neg f2] at E1
    by_cases hq : fput f = l.take (F + 9)
    · have hb1 : (fput f == l.take (F + 9)) = true := by rw [hq]; simp
      rw [if_pos (HIFF.out.1 hq)] at E1
      have hRR : R = (f, F + 9, 0) := by rw [HR.out]; unfold fread; rw [if_pos E1, HF.out, HFF.out]
      have HRR := Lib.hid hRR
      have HAW := Lib.hid hAW
      rw [hb1]
      clear hq E1 hRR hAW hb1 h6
      go_wp2
      refine bodyPost_ret (results_ctt rfl _ _ ⟨w.heap.size, 0, none⟩ _ _ _ rfl rfl rfl (loadVar_frame _ _ _ rfl ((BW.set 0 (.int .u8 (T.toNat : Int))).set 1 (.slice a5 n5 c5)))) rfl ?_
      rw [HRR.out, HFP.out]
      exact ⟨_, rfl, HAW.out.fr (((Fr.refl (· = w.heap.size) W7).set w.heap.size 0 (.int .u8 (T.toNat : Int)) (fun _ => rfl)).set w.heap.size 1 (.slice a5 n5 c5) (fun _ => rfl)) (HAW.out.ne BW (by decide)), grew_set (grew_set GW (Nat.le_refl _) _) (Nat.le_refl _) _⟩
    · have hb1 : (fput f == l.take (F + 9)) = false := by simpa using hq
      rw [if_neg (fun h => hq (HIFF.out.2 h))] at E1
      have HE1 := Lib.hid E1
      rw [hb1]
      clear hq E1 hAW hb1 h6
      go_wp2
      refine bodyPost_ret (results_ctt rfl _ _ ⟨w.heap.size, 0, none⟩ _ _ _ rfl rfl rfl (loadVar_frame _ _ _ rfl ((BW.set 0 (.int .u8 0)).set 1 (.slice none 0 0)))) rfl ?_
      rw [HR.out, fread_fail HE1.out (by omega)]
      exact ⟨_, rfl, PayV.nil _ _, grew_set (grew_set GW (Nat.le_refl _) _) (Nat.le_refl _) _⟩
end Go.Proofs.Ytcibhkiddeggmaa
