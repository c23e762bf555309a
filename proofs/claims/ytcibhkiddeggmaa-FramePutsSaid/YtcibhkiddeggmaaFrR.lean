/- Contract of frame.Read. -/
import Derived.Test.YtcibhkiddeggmaaFrP
import Derived.Test.YtcibhkiddeggmaaPay
namespace Go.Proofs.Ytcibhkiddeggmaa
open Go Go.RowKit Go.Shelf

/-- what Open tells of a frame's summed part -/
theorem copen_frame {l : List UInt8} {n : Nat} (hn : n + 9 ≤ l.length) : ((l.drop 2).take (n + 7)).length = n + 7 ∧
    copen ((l.drop 2).take (n + 7)) = if cseal ((l.drop 2).take (n + 3)) = (l.drop 2).take (n + 7) then ((l.drop 2).take (n + 3), 0) else ([], 12) := by
  have hl : ((l.drop 2).take (n + 7)).length = n + 7 := by simp; omega
  refine ⟨hl, ?_⟩
  unfold copen
  rw [hl, if_neg (by omega), show n + 7 - 4 = n + 3 by omega, List.take_take, Nat.min_eq_left (by omega)]
theorem loadVar_frame (w : World) (b : Nat) (cs : Array Value) (hs : cs.size = 2) (h : Blk w b 24 cs) : (loadVar 24 ⟨b, 0, none⟩).run Try.prog w = .ok (.agg cs) w :=
  run_loadVar_row w b _ _ cs (0, 0) _ h Try.underlying24 rfl (by rw [hs]; kernel_rfl)
/-- the two cells of a block -/
theorem cells2 {w : World} {b : Nat} {t : TypeId} {x y : Value} (h : Blk w b t #[x, y]) : w.cell? ⟨b, 0, none⟩ = some x ∧ w.cell? ⟨b, 1, none⟩ = some y ∧ w.frozen? ⟨b, 0, none⟩ = false ∧ w.frozen? ⟨b, 1, none⟩ = false := by
  refine ⟨?_, ?_, h.frozen 0, h.frozen 1⟩
  · have := h.cell 0; simpa using this
  · have := h.cell 1; simpa using this
/-- what a failed Read leaves -/
theorem fread_fail {l : List UInt8} {e : Nat} (h : ferr l = e) (he : e ≠ 0) : fread l = ((0, []), 0, e) := by
  unfold fread; rw [h, if_neg he]
set_option maxRecDepth 100000 in
set_option maxHeartbeats 2000000 in
theorem fread_any (l : List UInt8) (v : Value) (w : World) (hb : Bs w v l) (hlen : l.length ≤ 1000000000) :
    Calls Try.prog 12 #[v] w fun e w' => ∃ v', e = .returned (.tuple #[frV (fread l).1.1 v', .int .i64 (fread l).2.1, .int .i64 (fread l).2.2]) ∧ PayV w' w.heap.size v' (fread l).1.2 ∧ Grew w w' := by
  obtain ⟨R, hR⟩ : ∃ R, R = fread l := ⟨_, rfl⟩
  rw [← hR]
  obtain ⟨a, c, rfl, h1, h2, -, h4⟩ := hb.open
  unfold maxLen at h2
  have HR := Lib.hid hR
  have HB := Lib.hid hb
  clear hR hb
  go_enter Try.func12, Try.ntmps12
  go_wp2
  go_step3
  go_wp2
  go_step3
  go_wp2
  go_loopw [5, 13] (fun ev i wr => (ev = .int .i64 4 ∧ ∃ k : Nat, k ≤ l.length ∧ k ≤ 4 ∧ i = .int .i64 k ∧ (0 < k → byteAt l 0 = 197) ∧ (1 < k → byteAt l 1 = 154)) ∧ Drew (w.alloc (.cells #[.int .u8 0, .slice none 0 0] 24)) wr) (fun _ i _ => 5 - (intOf i).toNat)
  case atStart => exact ⟨⟨rfl, 0, Nat.zero_le _, Nat.zero_le _, rfl, by omega, by omega⟩, 0, rfl⟩
  case round =>
    obtain ⟨⟨rfl, k, hk, hk4, rfl, hb0, hb1⟩, m, rfl⟩ := hrel
    by_cases hlt : k < l.length
    · obtain ⟨b, o, rfl, hc⟩ := h4 (by omega)
      have c0 := below_ext (grew_alloc w (.cells #[.int .u8 0, .slice none 0 0] 24)) _ _ (hc k _ (bv_get l k hlt))
      have hba : byteAt l k = l[k].toNat := by unfold byteAt; rw [List.getD_eq_getElem?_getD, List.getElem?_eq_getElem hlt]; rfl
      have hu := u8lt l[k]
      clear hc h4
      by_cases e0 : k = 0
      · have k0 : ((k : Int) == 0) = true := by simp; omega
        have k1 : ((k : Int) == 1) = false := by simp; omega
        have k2 : decide ((k : Int) + 1 < 5) = true := by simp; omega
        by_cases hx : l[k].toNat = 197
        · have hx1 : ((l[k].toNat : Int) != 197) = false := by simp [hx]
          have hx2 := Lib.hid hx
          have e1 := Lib.hid e0
          clear hx e0
          go_wp2
          go_roundw
          case rel => exact ⟨⟨rfl, k + 1, by omega, by have := e1.out; omega, by go_num, fun _ => by have h1 := e1.out; have h2 := hx2.out; subst h1; rw [hba]; exact h2, fun h => by have := e1.out; omega⟩, ⟨m, rfl⟩⟩
          case measure => have := e1.out; simp [intOf]; omega
        · have hx1 : ((l[k].toNat : Int) != 197) = true := by simp; omega
          have hx2 := Lib.hid hx
          have e1 := Lib.hid e0
          clear hx e0
          go_wp2
          rw [Exit.noGoto_ret]
          have hw := (((Blk.new w 24 #[.int .u8 0, .slice none 0 0]).drewN m).set 0 (.int .u8 0)).set 1 (.slice none 0 0)
          refine bodyPost_ret (results_ctt rfl _ _ ⟨w.heap.size, 0, none⟩ _ _ _ rfl rfl rfl (loadVar_frame _ _ _ rfl hw)) rfl ?_
          have hf : ferr l = 3 := by
            have h1 := e1.out; have h2 := hx2.out; subst h1
            unfold ferr; rw [if_pos (.inl ⟨hlt, by rw [hba]; exact h2⟩)]
          rw [HR.out, fread_fail hf (by omega)]
          exact ⟨_, rfl, PayV.nil _ _, grew_set (grew_set (Grew.trans (grew_alloc _ _) (Drew.grew ⟨m, rfl⟩)) (Nat.le_refl _) _) (Nat.le_refl _) _⟩
      · have k0 : ((k : Int) == 0) = false := by simp; omega
        by_cases e1 : k = 1
        · have k1 : ((k : Int) == 1) = true := by simp; omega
          have k2 : decide ((k : Int) + 1 < 5) = true := by simp; omega
          have E1 := Lib.hid e1
          clear e1 e0
          by_cases hx : l[k].toNat = 154
          · have hx1 : ((l[k].toNat : Int) != 154) = false := by simp [hx]
            have hx2 := Lib.hid hx
            clear hx
            go_wp2
            go_roundw
            case rel => exact ⟨⟨rfl, k + 1, by omega, by have := E1.out; omega, by go_num, fun _ => hb0 (by have := E1.out; omega), fun _ => by have h1 := E1.out; have h2 := hx2.out; subst h1; rw [hba]; exact h2⟩, ⟨m, rfl⟩⟩
            case measure => have := E1.out; simp [intOf]; omega
          · have hx1 : ((l[k].toNat : Int) != 154) = true := by simp; omega
            have hx2 := Lib.hid hx
            clear hx
            go_wp2
            rw [Exit.noGoto_ret]
            have hw := (((Blk.new w 24 #[.int .u8 0, .slice none 0 0]).drewN m).set 0 (.int .u8 0)).set 1 (.slice none 0 0)
            refine bodyPost_ret (results_ctt rfl _ _ ⟨w.heap.size, 0, none⟩ _ _ _ rfl rfl rfl (loadVar_frame _ _ _ rfl hw)) rfl ?_
            have hf : ferr l = 3 := by
              have h1 := E1.out; have h2 := hx2.out; subst h1
              unfold ferr; rw [if_pos (.inr ⟨hlt, by rw [hba]; exact h2⟩)]
            rw [HR.out, fread_fail hf (by omega)]
            exact ⟨_, rfl, PayV.nil _ _, grew_set (grew_set (Grew.trans (grew_alloc _ _) (Drew.grew ⟨m, rfl⟩)) (Nat.le_refl _) _) (Nat.le_refl _) _⟩
        · have k1 : ((k : Int) == 1) = false := by simp; omega
          by_cases e4 : k < 4
          · have k2 : decide ((k : Int) + 1 < 5) = true := by simp; omega
            have E1 : RowKit.Hid (1 < k) := by show 1 < k; omega
            have E4 := Lib.hid e4
            clear e1 e0 e4
            go_wp2
            go_roundw
            case rel => exact ⟨⟨rfl, k + 1, by omega, by have := E4.out; omega, by go_num, fun _ => hb0 (by have := E1.out; omega), fun _ => hb1 E1.out⟩, ⟨m, rfl⟩⟩
            case measure => have := E4.out; simp [intOf]; omega
          · obtain rfl : k = 4 := by omega
            have q0 := hb0 (by omega)
            have q1 := hb1 (by omega)
            have hform : ¬ ((0 < l.length ∧ byteAt l 0 ≠ 197) ∨ (1 < l.length ∧ byteAt l 1 ≠ 154)) := by
              rintro (⟨_, h'⟩ | ⟨_, h'⟩)
              · exact h' q0
              · exact h' q1
            obtain ⟨F, hF⟩ : ∃ F, F = flen l := ⟨_, rfl⟩
            have hFl : F < 65792 := by have h3 := byteAt_lt l 3; have h4 := byteAt_lt l 4; rw [hF]; unfold flen; omega
            have hfe : ferr l = if 8192 < F then 2 else if l.length < F + 9 then 4 else if cseal ((l.drop 2).take (F + 3)) = (l.drop 2).take (F + 7) then 0 else 12 := by
              rw [hF]
              conv => lhs; unfold ferr
              rw [if_neg hform, if_neg (by omega)]
            have hlen' : 5 ≤ l.length := by omega
            have kl : ∀ w', Bs w' (.slice (some ⟨b, o, none⟩) l.length c) l → Calls Try.prog 31 #[.slice (some ⟨b, o, none⟩) l.length c] w' fun e w'' => e = .returned (.int .i64 (F : Nat)) ∧ Drew w' w'' := fun w' h => by rw [hF]; exact flength_any l _ w' h hlen'
            have HF := Lib.hid hF
            have HE := Lib.hid hfe
            have HL := Lib.hid kl
            have hb' := Lib.hid ((HB.out.grew (grew_alloc w (.cells #[.int .u8 0, .slice none 0 0] 24))).grew (Drew.grew ⟨m, rfl⟩))
            clear hF hfe kl e0 e1 e4 q0 q1 hform hb0 hb1
            go_wp2_with fail
            refine (HL.out _ hb'.out).mono ?_
            rintro e w1 ⟨rfl, D1⟩
            have G1 : Grew w w1 := (Grew.trans (grew_alloc _ _) (Drew.grew ⟨m, rfl⟩)).trans D1.grew
            have B1 := ((Blk.new w 24 #[.int .u8 0, .slice none 0 0]).drewN m).grew D1.grew
            have hb1 := Lib.hid (hb'.out.grew D1.grew)
            clear D1 hb'
            by_cases f1 : 8192 < F
            · have d1 : decide ((F : Int) > 8192) = true := by simp; omega
              have f1' := Lib.hid f1
              clear f1
              obtain ⟨x0, x1, x2, x3⟩ := cells2 B1
              go_wp2
              rw [Exit.noGoto_ret]
              have hw := ((B1).set 0 (.int .u8 0)).set 1 (.slice none 0 0)
              refine bodyPost_ret (results_ctt rfl _ _ ⟨w.heap.size, 0, none⟩ _ _ _ rfl rfl rfl (loadVar_frame _ _ _ rfl hw)) rfl ?_
              have hf : ferr l = 2 := by rw [HE.out, if_pos f1'.out]
              rw [HR.out, fread_fail hf (by omega)]
              exact ⟨_, rfl, PayV.nil _ _, grew_set (grew_set (G1) (Nat.le_refl _) _) (Nat.le_refl _) _⟩
            · have d1 : decide ((F : Int) > 8192) = false := by simp; omega
              have f1' := Lib.hid f1
              clear f1
              go_wp2_with fail
              refine (HL.out _ hb1.out).mono ?_
              rintro e w2 ⟨rfl, D2⟩
              have G2 := Grew.trans G1 D2.grew
              have B2 := B1.grew D2.grew
              have hb2 := Lib.hid (hb1.out.grew D2.grew)
              clear D2
              have hsz : fsize (F : Int) = (F : Int) + 9 := by unfold fsize; rw [if_neg (by have := f1'.out; omega)]
              have ks : ∀ w', Calls Try.prog 9 #[.int .i64 F] w' fun e w'' => e = .returned (.int .i64 ((F : Int) + 9)) ∧ w' = w'' := fun w' => by rw [← hsz]; exact fsize_any _ w' (by omega) (by omega)
              have KS := Lib.hid ks
              clear hsz ks
              go_wp2_with fail
              refine (KS.out _).mono ?_
              rintro e w3 ⟨rfl, rfl⟩
              by_cases f2 : l.length < F + 9
              · have d2 : decide ((l.length : Int) < (F : Int) + 9) = true := by simp; omega
                have f2' := Lib.hid f2
                clear f2
                obtain ⟨x0, x1, x2, x3⟩ := cells2 B2
                go_wp2
                rw [Exit.noGoto_ret]
                have hw := ((B2).set 0 (.int .u8 0)).set 1 (.slice none 0 0)
                refine bodyPost_ret (results_ctt rfl _ _ ⟨w.heap.size, 0, none⟩ _ _ _ rfl rfl rfl (loadVar_frame _ _ _ rfl hw)) rfl ?_
                have hf : ferr l = 4 := by rw [HE.out, if_neg f1'.out, if_pos f2'.out]
                rw [HR.out, fread_fail hf (by omega)]
                exact ⟨_, rfl, PayV.nil _ _, grew_set (grew_set (G2) (Nat.le_refl _) _) (Nat.le_refl _) _⟩
              · have d2 : decide ((l.length : Int) < (F : Int) + 9) = false := by simp; omega
                have f2a : F + 9 ≤ l.length := by omega
                have f2' := Lib.hid f2
                clear f2
                go_wp2_with fail
                refine (HL.out _ hb2.out).mono ?_
                rintro e w4 ⟨rfl, D3⟩
                have G3 := Grew.trans G2 D3.grew
                have B3 := B2.grew D3.grew
                have hb3 := Lib.hid (hb2.out.grew D3.grew)
                clear D3
                go_wp2_with fail
                refine (KS.out _).mono ?_
                rintro e w5 ⟨rfl, rfl⟩
                go_wp2_with fail
                obtain ⟨X, hX⟩ : ∃ X, X = (l.drop 2).take (F + 7) := ⟨_, rfl⟩
                have hcut : Bs w4 (.slice (some ⟨b, o + 2, none⟩) (F + 7) (c - 2)) X := by rw [hX]; exact bs_cut hb3.out 2 (F + 9) (by omega) f2a
                obtain ⟨hXl, hXo⟩ := copen_frame f2a
                rw [← hX] at hXl hXo
                by_cases hq : cseal ((l.drop 2).take (F + 3)) = X
                · rw [if_pos hq] at hXo
                  have hf : ferr l = 0 := by rw [HE.out, if_neg f1'.out, if_neg f2'.out, ← hX, if_pos hq]
                  obtain ⟨Y, hY⟩ : ∃ Y, Y = (l.drop 2).take (F + 3) := ⟨_, rfl⟩
                  have hYl : Y.length = F + 3 := by rw [hY]; simp; omega
                  rw [← hY] at hXo
                  obtain ⟨T, hT⟩ : ∃ T, T = l.getD 2 0 := ⟨_, rfl⟩
                  have hY0 : (bv Y)[0]? = some (.int .u8 (T.toNat : Int)) := by
                    have : Y[0]? = l[2]? := by rw [hY, List.getElem?_take_of_lt (by omega), List.getElem?_drop]
                    rw [bv, List.getElem?_map, this, hT, List.getD_eq_getElem?_getD, List.getElem?_eq_getElem (by omega)]; rfl
                  have hY3 : Y.drop 3 = (l.drop 5).take F := by rw [hY, List.drop_take, List.drop_drop]; rfl
                  have hR2 : R = ((T, Y.drop 3), F + 9, 0) := by rw [hT, hY3, HR.out, HF.out]; unfold fread; rw [if_pos hf]; rfl
                  have HR2 := Lib.hid hR2
                  have HY := Lib.hid hYl
                  have HXL := Lib.hid hXl
                  have HXO := Lib.hid hXo
                  have hTl := u8lt T
                  clear hR2 hf hX hY hYl hXl hXo hq hY3 hT
                  refine (open_any X _ _ hcut (by rw [HXL.out]; omega)).mono ?_
                  rw [HXO.out]
                  rintro e w6 ⟨v6, rfl, ho6, g6⟩
                  have hp6 := PayV.of_own ho6
                  obtain ⟨a6, n6, c6, rfl, hn6⟩ := bs_shape hp6.bs
                  obtain ⟨_, _, e6, q1, q2, q3, q4⟩ := hp6.bs.open
                  cases e6
                  have hpos : 0 < Y.length * 1 := by have := HY.out; omega
                  obtain ⟨bb, off6, rfl, hc6⟩ := q4 hpos
                  have y0 := hc6 0 _ hY0
                  rw [Nat.add_zero] at y0
                  have B6 := B3.grew g6
                  have G6 := Grew.trans G3 g6
                  obtain ⟨x0, x1, x2, x3⟩ := cells2 B6
                  have HP := Lib.hid hp6
                  have hn6' : Y.length = F + 3 := HY.out
                  clear hc6 q4 hp6 ho6 hcut
                  unfold maxLen at q2
                  go_wp2
                  go_region
                  rw [hn6'] at HP
                  have hdr := bs_dropI HP.out.1 3 (by omega)
                  have hpg : ∀ ad, (if c6 = 3 then some (⟨bb, off6, none⟩ : Addr) else some ⟨bb, off6 + 3, none⟩) = some ad → ad.block = bb := by
                    intro ad h; split at h <;> (cases h; rfl)
                  generalize hpt : (if c6 = 3 then some (⟨bb, off6, none⟩ : Addr) else some ⟨bb, off6 + 3, none⟩) = pt at hdr hpg ⊢
                  have HD := Lib.hid hdr
                  have HG := Lib.hid hpg
                  clear hpt hdr hpg
                  go_wp2
                  try rw [Exit.noGoto_ret]
                  have hw := (B6.set 0 (.int .u8 (T.toNat : Int))).set 1 (.slice pt F (c6 - 3))
                  refine bodyPost_ret (results_ctt rfl _ _ ⟨w.heap.size, 0, none⟩ _ _ _ rfl rfl rfl (loadVar_frame _ _ _ rfl hw.drew)) rfl ?_
                  rw [HR2.out]
                  have ge : Fr (· = w.heap.size) w6 (((w6.setCell ⟨w.heap.size, 0, none⟩ (.int .u8 (T.toNat : Int))).setCell ⟨w.heap.size, 1, none⟩ (.slice pt F (c6 - 3))).drew) := (((Fr.refl (· = w.heap.size) w6).set w.heap.size 0 _ (fun _ => rfl)).set w.heap.size 1 _ (fun _ => rfl)).drew
                  have hbb : w4.heap.size ≤ bb := (HP.out.2 bb rfl).1
                  have hsz4 : w.heap.size < w4.heap.size := B3.lt
                  refine ⟨_, rfl, ⟨?_, ?_⟩, (grew_set (grew_set G6 (Nat.le_refl _) _) (Nat.le_refl _) _).drew⟩
                  · have e : (Y.drop 3).length = F := by rw [List.length_drop, hn6']; omega
                    refine Sl.fr (S := (· = w.heap.size)) HD.out ge ?_
                    intro g hg _ e
                    cases pt with
                    | none => cases hg
                    | some ad => cases hg; have := HG.out ad rfl; omega
                  · intro g hg
                    have hg' : g = bb := by
                      cases pt with
                      | none => cases hg
                      | some ad => cases hg; exact HG.out ad rfl
                    subst hg'
                    refine ⟨by omega, ?_⟩
                    obtain ⟨cs, hcs⟩ := (HP.out.2 g rfl).2
                    exact ⟨cs, hcs.fr ge (by omega)⟩
                · rw [if_neg hq] at hXo
                  have hf : ferr l = 12 := by rw [HE.out, if_neg f1'.out, if_neg f2'.out, ← hX, if_neg hq]
                  have HFF := Lib.hid hf
                  have HXL := Lib.hid hXl
                  have HXO := Lib.hid hXo
                  clear hf hX hXl hXo hq
                  refine (open_any X _ _ hcut (by rw [HXL.out]; omega)).mono ?_
                  rw [HXO.out]
                  rintro e w6 ⟨v6, rfl, -, g6⟩
                  have B6 := B3.grew g6
                  have G6 := Grew.trans G3 g6
                  clear hcut
                  obtain ⟨x0, x1, x2, x3⟩ := cells2 B6
                  go_wp2
                  rw [Exit.noGoto_ret]
                  have hw := (B6.set 0 (.int .u8 0)).set 1 (.slice none 0 0)
                  refine bodyPost_ret (results_ctt rfl _ _ ⟨w.heap.size, 0, none⟩ _ _ _ rfl rfl rfl (loadVar_frame _ _ _ rfl hw)) rfl ?_
                  rw [HR.out, fread_fail HFF.out (by omega)]
                  exact ⟨_, rfl, PayV.nil _ _, grew_set (grew_set G6 (Nat.le_refl _) _) (Nat.le_refl _) _⟩
    · obtain rfl : k = l.length := by omega
      clear h4
      have hw0 := (Blk.new w 24 #[.int .u8 0, .slice none 0 0]).drewN m
      have G0 : Grew w ((w.alloc (.cells #[.int .u8 0, .slice none 0 0] 24)).drewN m) := (grew_alloc _ _).trans (Drew.grew ⟨m, rfl⟩)
      go_wp2
      rw [Exit.noGoto_ret]
      have hw := (hw0.set 0 (.int .u8 0)).set 1 (.slice none 0 0)
      refine bodyPost_ret (results_ctt rfl _ _ ⟨w.heap.size, 0, none⟩ _ _ _ rfl rfl rfl (loadVar_frame _ _ _ rfl hw)) rfl ?_
      have hf : ferr l = 4 := by
        unfold ferr; rw [if_neg, if_pos (by omega)]
        rintro (⟨h1, h'⟩ | ⟨h1, h'⟩)
        · exact h' (hb0 h1)
        · exact h' (hb1 h1)
      rw [HR.out, fread_fail hf (by omega)]
      exact ⟨_, rfl, PayV.nil _ _, grew_set (grew_set G0 (Nat.le_refl _) _) (Nat.le_refl _) _⟩
end Go.Proofs.Ytcibhkiddeggmaa
