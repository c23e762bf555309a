/- The laws EncodeApart, EncodeSmall return true: their walks. -/
import Derived.Deep.CutRange
import Derived.Test.YtgoaijpckckdnaaEnb
import Derived.Test.YtgoaijpckckdnaaEnq
import Derived.Test.YtgoaijpckckdnaaSkF
import Derived.Test.YtgoaijpckckdnaaSkB
namespace Go.Proofs.Ytgoaijpckckdnaa
open Go Go.RowKit Go.Shelf
attribute [local go_sem] Oper.semAt_some

theorem msgB_bad {m : Msg} {L : List Row} (h : (chkM m L).1 ≠ 0) : msgB m L = [] := by unfold msgB; rw [if_pos h]
set_option maxRecDepth 100000 in
set_option maxHeartbeats 8000000 in
theorem encapart_walk (m n : Msg) (v u : Value) (ver : Int) (w : World) (hm : MsgR w v m) (hn : MsgR w u n) (hmn : ∀ i, i < 6 → m.n i < 18446744073709551616) (hnn : ∀ i, i < 6 → n.n i < 18446744073709551616) :
    Calls Try.prog 10 #[v, u, .int .i64 ver] w fun e w' => e = .returned (.bool true) ∧ Grew w w' := by
  obtain ⟨lv, rfl, hl, -⟩ := hm
  obtain ⟨lu, rfl, hu, -⟩ := hn
  obtain ⟨a, c, rfl⟩ := tx_len hl
  obtain ⟨b, d, rfl⟩ := tx_len hu
  obtain ⟨W0, hW0⟩ : ∃ W0, W0 = (w.alloc (.cells (msgA m (.slice a m.l.length c)) 57)).alloc (.cells (msgA n (.slice b n.l.length d)) 57) := ⟨_, rfl⟩
  have g0 : Grew w W0 := by rw [hW0]; exact grew2 _ _ _
  have k1 : Blk W0 w.heap.size 57 (msgA m (.slice a m.l.length c)) := by rw [hW0]; exact (Blk.new _ _ _).alloc _
  have k2 : Blk W0 (w.heap.size + 1) 57 (msgA n (.slice b n.l.length d)) := by rw [hW0]; exact Blk.new2 _ _ _ _
  have K1 := Lib.hid k1
  have K2 := Lib.hid k2
  have G0 := Lib.hid g0
  have KS := Lib.hid (fun W g => small9_any m (.slice a m.l.length c) W (hl.grew (g : Grew w W)))
  have KT := Lib.hid (fun W g => small9_any n (.slice b n.l.length d) W (hu.grew (g : Grew w W)))
  have KE := Lib.hid (fun h W g => ebytes_any m a c ver W (small_ok h hmn) (hl.grew (g : Grew w W)))
  have KF := Lib.hid (fun h W g => ebytes_any n b d ver W (small_ok h hnn) (hu.grew (g : Grew w W)))
  have KV := Lib.hid (fun W g => vsame_any m n (.slice a m.l.length c) (.slice b n.l.length d) W (hl.grew (g : Grew w W)) (hu.grew (g : Grew w W)))
  have HAP := Lib.hid (fun hk ha hb => apart (a := m) (b := n) (ver := ver) hk ha hb hmn hnn)
  obtain ⟨E, hE⟩ : ∃ E, E = chkM m (ofKind m.k (rowsIn ver)) := ⟨_, rfl⟩
  obtain ⟨E', hE'⟩ : ∃ E, E = chkM n (ofKind n.k (rowsIn ver)) := ⟨_, rfl⟩
  obtain ⟨B, hB⟩ : ∃ B, B = msgB m (ofKind m.k (rowsIn ver)) := ⟨_, rfl⟩
  obtain ⟨B', hB'⟩ : ∃ B, B = msgB n (ofKind n.k (rowsIn ver)) := ⟨_, rfl⟩
  rw [← hE, ← hB] at KE
  rw [← hE', ← hB'] at KF
  rw [← hE, ← hE', ← hB, ← hB'] at HAP
  obtain ⟨SB, hSB⟩ : ∃ SB, SB = sameB m n := ⟨_, rfl⟩
  rw [← hSB] at KV HAP
  simp only [msgA, fltV] at hW0 KS KT KE KF KV ⊢
  clear k1 k2 g0 hl hu hE hE' hB hB' hSB hmn hnn
  go_enter Try.func10, Try.ntmps10
  go_wp2_with fail
  rw [← hW0]
  refine (live10_any _).mono ?_
  rintro e w1 ⟨rfl, g1⟩
  have K3 := Lib.hid (K1.out.grew g1)
  have K4 := Lib.hid (K2.out.grew g1)
  have G1 := Lib.hid (G0.out.trans g1)
  clear hW0 K1 K2 G0 g1
  obtain ⟨c0, c1, c2, c3, c4, c5, c6, c7, c8, c9⟩ := mcells K3.out
  go_wp2_with fail
  refine (KS.out _ G1.out).mono ?_
  rintro e w2 ⟨rfl, g2⟩
  have K5 := Lib.hid (K3.out.grew g2)
  have K6 := Lib.hid (K4.out.grew g2)
  have G2 := Lib.hid (G1.out.trans g2)
  clear K3 K4 G1 g2 c0 c1 c2 c3 c4 c5 c6 c7 c8 c9
  cases hs : smallB m with
  | false =>
    clear hs
    go_wp2
    go_ret
    exact ⟨rfl, G2.out⟩
  | true =>
  have KE1 := Lib.hid (KE.out hs)
  clear hs KE KS
  obtain ⟨c0, c1, c2, c3, c4, c5, c6, c7, c8, c9⟩ := mcells K6.out
  go_wp2_with fail
  refine (KT.out _ G2.out).mono ?_
  rintro e w3 ⟨rfl, g3⟩
  have K7 := Lib.hid (K5.out.grew g3)
  have K8 := Lib.hid (K6.out.grew g3)
  have G3 := Lib.hid (G2.out.trans g3)
  clear K5 K6 G2 g3 c0 c1 c2 c3 c4 c5 c6 c7 c8 c9
  cases hs : smallB n with
  | false =>
    clear hs
    go_wp2
    go_ret
    exact ⟨rfl, G3.out⟩
  | true =>
  have KF1 := Lib.hid (KF.out hs)
  clear hs KF KT
  obtain ⟨c0, -, -, -, -, -, -, -, -, -⟩ := mcells K7.out
  obtain ⟨d0, -, -, -, -, -, -, -, -, -⟩ := mcells K8.out
  by_cases hk : m.k = n.k
  case neg =>
    have hk2 : ((m.k : Int) != (n.k : Int)) = true := by simp; omega
    clear hk
    go_wp2
    go_ret
    exact ⟨rfl, G3.out⟩
  have hk2 : ((m.k : Int) != (n.k : Int)) = false := by simp; omega
  have HAP1 := Lib.hid (HAP.out hk)
  clear hk HAP
  go_upto_region 5 with (fail)
  clear c0 d0 hk2
  obtain ⟨c0, c1, c2, c3, c4, c5, c6, c7, c8, c9⟩ := mcells K7.out
  go_wp2_with fail
  refine (KE1.out _ G3.out).mono ?_
  rintro e w4 ⟨v4, rfl, ho4, g4⟩
  obtain ⟨a4, n4, c4', rfl, hn4⟩ := bs_shape (Sl.of_own ho4)
  obtain ⟨wa, hwa⟩ : ∃ wa, wa = w4.alloc (.cells #[.int .i64 (E.1 : Nat), .int .i64 (E.2 : Nat)] 27) := ⟨_, rfl⟩
  have ga : Grew w4 wa := by rw [hwa]; exact grew_alloc _ _
  have ka : Blk wa w4.heap.size 27 #[.int .i64 (E.1 : Nat), .int .i64 (E.2 : Nat)] := by rw [hwa]; exact Blk.new _ _ _
  have KA := Lib.hid ka
  have HO4 := Lib.hid (own_grew ho4 ga)
  have K9 := Lib.hid ((K7.out.grew g4).grew ga)
  have K10 := Lib.hid ((K8.out.grew g4).grew ga)
  have G4 := Lib.hid ((G3.out.trans g4).trans ga)
  clear c0 c1 c2 c3 c4 c5 c6 c7 c8 c9 ho4 g4 ga ka K7 K8
  go_upto_region 6 with (fail)
  rw [← hwa]
  clear hwa
  obtain ⟨c0, c1, c2, c3, c4, c5, c6, c7, c8, c9⟩ := mcells K10.out
  go_wp2_with fail
  refine (KF1.out _ G4.out).mono ?_
  rintro e w5 ⟨v5, rfl, ho5, g5⟩
  obtain ⟨a5, n5, c5', rfl, hn5⟩ := bs_shape (Sl.of_own ho5)
  obtain ⟨wb, hwb⟩ : ∃ wb, wb = w5.alloc (.cells #[.int .i64 (E'.1 : Nat), .int .i64 (E'.2 : Nat)] 27) := ⟨_, rfl⟩
  have gb : Grew w5 wb := by rw [hwb]; exact grew_alloc _ _
  have kb : Blk wb w5.heap.size 27 #[.int .i64 (E'.1 : Nat), .int .i64 (E'.2 : Nat)] := by rw [hwb]; exact Blk.new _ _ _
  have KB := Lib.hid kb
  have KA2 := Lib.hid ((KA.out.grew g5).grew gb)
  have K11 := Lib.hid ((K9.out.grew g5).grew gb)
  have K12 := Lib.hid ((K10.out.grew g5).grew gb)
  have G5 := Lib.hid ((G4.out.trans g5).trans gb)
  have KQ := Lib.hid (fun W (g : Grew wb W) => same_any B B' _ _ W ((Sl.of_own (own_grew (own_grew HO4.out g5) gb)).grew g) ((Sl.of_own (own_grew ho5 gb)).grew g))
  clear c0 c1 c2 c3 c4 c5 c6 c7 c8 c9 ho5 g5 gb kb K9 K10 KA
  go_upto_region 7 with (fail)
  rw [← hwb]
  clear hwb
  obtain ⟨x0, x1, -, -⟩ := cells_of KA2.out
  obtain ⟨y0, y1, -, -⟩ := cells_of KB.out
  by_cases he : E.1 ≠ 0
  · have hne : ((E.1 : Int) != 0) = true := by simp; omega
    clear he
    go_wp2
    go_ret
    exact ⟨rfl, G5.out⟩
  have hne : ((E.1 : Int) != 0) = false := by simp; omega
  by_cases he' : E'.1 ≠ 0
  · have hne' : ((E'.1 : Int) != 0) = true := by simp; omega
    clear he he'
    go_wp2
    go_ret
    exact ⟨rfl, G5.out⟩
  have hne' : ((E'.1 : Int) != 0) = false := by simp; omega
  have HEQ := Lib.hid (HAP1.out (by omega) (by omega))
  clear he he'
  go_upto_region 9 with (fail)
  clear x0 x1 y0 y1 hne hne'
  have K11u := K11
  have K12u := K12
  simp only [msgA] at K11u K12u
  refine wp_region_grew wb (Below.refl _ _) (by kernel_rfl) (by kernel_rfl) ?_
  repeat (
    refine BigFrame.wpQuiet_want (by kernel_rfl) (fun K hK => ?_)
    first
      | (refine q_row 57 _ rfl w.heap.size rfl 57 _ _ K11u.out Try.underlying57 rfl (by kernel_rfl) (hK _ ?_))
      | (refine q_row 57 _ rfl (w.heap.size + 1) rfl 57 _ _ K12u.out Try.underlying57 rfl (by kernel_rfl) (hK _ ?_))
      | (apply Exists.intro
         apply And.intro
         · intro W hW
           go_simp
           first
             | done
             | rfl
             | with_reducible exact q_calls hW (KQ.out W hW.out) (fun _ _ h => ⟨h.1, h.2.grew⟩)
             | with_reducible exact q_calls hW (KV.out W (G5.out.trans hW.out)) (fun _ _ h => h)
         refine hK _ ?_)
    clear hK K
    simp only [Act.put, List.setIfInBounds_toArray, List.set_cons_zero, List.set_cons_succ])
  refine wpQuiet_nil ?_
  intro w6 g6
  have G6 := Lib.hid (G5.out.trans g6.out)
  clear g6
  go_wp2
  go_ret
  exact ⟨ret_bool (by rw [HEQ.out]; simp), G6.out⟩
def SmR (r : Row) (w : World) (x y : Value) (wx : World) : Prop := ∃ p, x = .pointer (some ⟨p, 0, none⟩) ∧ y = .bool true ∧ Blk wx p 63 #[.int .i64 r.2.1, .int .i64 r.2.2.1, .int .i64 r.2.2.2.1] ∧ Grew w wx
set_option maxRecDepth 100000 in
set_option maxHeartbeats 8000000 in
theorem encsmall_walk (m : Msg) (v : Value) (ver : Int) (w : World) (hm : MsgR w v m) (hmn : ∀ i, i < 6 → m.n i < 18446744073709551616) :
    Calls Try.prog 11 #[v, .int .i64 ver] w fun e w' => e = .returned (.bool true) ∧ Grew w w' := by
  obtain ⟨lv, rfl, hl, -⟩ := hm
  obtain ⟨a, c, rfl⟩ := tx_len hl
  obtain ⟨W0, hW0⟩ : ∃ W0, W0 = w.alloc (.cells (msgA m (.slice a m.l.length c)) 57) := ⟨_, rfl⟩
  have g0 : Grew w W0 := by rw [hW0]; exact grew_alloc _ _
  have k1 : Blk W0 w.heap.size 57 (msgA m (.slice a m.l.length c)) := by rw [hW0]; exact Blk.new _ _ _
  have K1 := Lib.hid k1
  have G0 := Lib.hid g0
  have KS := Lib.hid (fun W g => small9_any m (.slice a m.l.length c) W (hl.grew (g : Grew w W)))
  have KE := Lib.hid (fun h W g => ebytes_any m a c ver W (small_ok h hmn) (hl.grew (g : Grew w W)))
  have HSM := Lib.hid (fun h => small_msg (m := m) (ver := ver) h hmn)
  have HAT := Lib.hid (fun h F hF => small_at (m := m) (ver := ver) h hmn (F := F) hF)
  have HBD := Lib.hid (fun h => msgB_bad (m := m) (L := ofKind m.k (rowsIn ver)) h)
  have KFI := Lib.hid (fun num W => find_any m.k ver num W)
  obtain ⟨E, hE⟩ : ∃ E, E = chkM m (ofKind m.k (rowsIn ver)) := ⟨_, rfl⟩
  obtain ⟨B, hB⟩ : ∃ B, B = msgB m (ofKind m.k (rowsIn ver)) := ⟨_, rfl⟩
  rw [← hE, ← hB] at KE HSM HAT HBD
  simp only [msgA, fltV] at hW0 KS KE ⊢
  clear k1 g0 hl hE hB hmn
  go_enter Try.func11, Try.ntmps11
  go_wp2_with fail
  rw [← hW0]
  refine (live10_any _).mono ?_
  rintro e w1 ⟨rfl, g1⟩
  have K3 := Lib.hid (K1.out.grew g1)
  have G1 := Lib.hid (G0.out.trans g1)
  clear hW0 K1 G0 g1
  obtain ⟨c0, c1, c2, c3, c4, c5, c6, c7, c8, c9⟩ := mcells K3.out
  go_wp2_with fail
  refine (KS.out _ G1.out).mono ?_
  rintro e w2 ⟨rfl, g2⟩
  have K5 := Lib.hid (K3.out.grew g2)
  have G2 := Lib.hid (G1.out.trans g2)
  clear K3 G1 g2 c0 c1 c2 c3 c4 c5 c6 c7 c8 c9
  cases hs : smallB m with
  | false =>
    clear hs
    go_wp2
    go_ret
    exact ⟨rfl, G2.out⟩
  | true =>
  have KE1 := Lib.hid (KE.out hs)
  clear hs KE KS
  obtain ⟨c0, c1, c2, c3, c4, c5, c6, c7, c8, c9⟩ := mcells K5.out
  go_wp2_with fail
  refine (KE1.out _ G2.out).mono ?_
  rintro e w4 ⟨v4, rfl, ho4, g4⟩
  obtain ⟨a4, c4', rfl⟩ := bs_len (Sl.of_own ho4)
  obtain ⟨wa, hwa⟩ : ∃ wa, wa = w4.alloc (.cells #[.int .i64 (E.1 : Nat), .int .i64 (E.2 : Nat)] 27) := ⟨_, rfl⟩
  have ga : Grew w4 wa := by rw [hwa]; exact grew_alloc _ _
  have ka : Blk wa w4.heap.size 27 #[.int .i64 (E.1 : Nat), .int .i64 (E.2 : Nat)] := by rw [hwa]; exact Blk.new _ _ _
  have HO4 := Lib.hid (own_grew ho4 ga)
  have K9 := Lib.hid ((K5.out.grew g4).grew ga)
  have G4 := Lib.hid ((G2.out.trans g4).trans ga)
  clear c0 c1 c2 c3 c4 c5 c6 c7 c8 c9 ho4 g4 ga K5
  go_upto_region 6 with (fail)
  rw [← hwa]
  clear hwa
  obtain ⟨x0, x1, -, -⟩ := cells_of ka
  by_cases he : E.1 ≠ 0
  · have hne : ((E.1 : Int) != 0) = true := by simp; omega
    have hB := HBD.out he
    subst hB
    clear he
    go_wp2
    go_ret
    exact ⟨rfl, G4.out⟩
  have hne : ((E.1 : Int) != 0) = false := by simp; omega
  have he0 : E.1 = 0 := by omega
  obtain ⟨-, hB8, hok, -, -, -⟩ := HSM.out he0
  have HA1 := Lib.hid (HAT.out he0)
  have KF := Lib.hid (fun W g => sfields_any B _ W ((Sl.of_own HO4.out).grew (g : Grew wa W)) (by omega))
  obtain ⟨R, hR⟩ : ∃ R, R = fieldsR B := ⟨_, rfl⟩
  rw [← hR] at KF hok
  have HR := Lib.hid hR
  have hR1 : R.2.1 = 0 := by rw [hok]
  have hR2 : R.2.2 = 0 := by rw [hok]
  rw [hR1, hR2] at KF
  have q8 : decide ((B.length : Int) > 8192) = false := by simp; omega
  have HRL := Lib.hid (show R.1.length ≤ 100000 from by rw [hR]; have := fieldsR_len B; omega)
  clear he he0 hB8 hok HAT HSM HBD hR hR1 hR2
  go_wp2_with fail
  refine (KF.out _ (Below.refl _ _)).mono ?_
  rintro e w5 ⟨v5, rfl, ho5, g5⟩
  obtain ⟨a5, c5, rfl⟩ := ho5.frs.shape
  obtain ⟨wb, hwb⟩ : ∃ wb, wb = w5.alloc (.cells #[.int .i64 0, .int .i64 0] 27) := ⟨_, rfl⟩
  have gb : Grew w5 wb := by rw [hwb]; exact grew_alloc _ _
  have kb : Blk wb w5.heap.size 27 #[.int .i64 0, .int .i64 0] := by rw [hwb]; exact Blk.new _ _ _
  have K11 := Lib.hid ((K9.out.grew g5).grew gb)
  have G5 := Lib.hid ((G4.out.trans g5).trans gb)
  have HF := Lib.hid (ho5.frs.grew gb)
  clear ho5 g5 gb x0 x1 K9 ka
  simp only [faultV]
  go_upto_region 9 with (fail)
  try simp only [Int.natCast_zero]
  rw [← hwb]
  clear hwb
  obtain ⟨x0, x1, -, -⟩ := cells_of kb
  have HIN := Lib.hid (fun j hj => HA1.out R.1 (by rw [HR.out]) j hj)
  have hli : (R.1.length : Int) ≤ 100000 := by have := HRL.out; omega
  clear HA1 KE1 KF
  go_wp2
  go_loopw [9] (fun i wr => ∃ k : Nat, k ≤ R.1.length ∧ i = .int .i64 k ∧ Grew wb wr) (fun i _ => R.1.length - (intOf i).toNat)
  case atStart => exact ⟨0, Nat.zero_le _, rfl, Below.refl _ _⟩
  case round =>
    obtain ⟨k, hk, rfl, hG⟩ := hrel
    have HGR := Lib.hid hG
    clear x0 x1
    by_cases hlt : k < R.1.length
    · obtain ⟨ps, hps, hfl⟩ := HF.out.grew hG
      have hpl : ps.length = R.1.length := by rw [← hps, List.length_map]
      obtain ⟨aa, ca, eaa, -, -, -, hc⟩ := hfl.1.open
      simp only [Value.slice.injEq] at eaa
      obtain ⟨rfl, -, rfl⟩ := eaa
      obtain ⟨b, o, rfl, -⟩ := hc (by omega)
      obtain ⟨r, hfind, hwire, hgood, hup⟩ := HIN.out k hlt
      have hp : ∀ j (h1 : j < ps.length) (h2 : j < R.1.length), ps[j].1 = R.1[j] := fun j h1 h2 => by
        have e : (ps.map (·.1))[j]? = R.1[j]? := by rw [hps]
        rw [List.getElem?_map, List.getElem?_eq_getElem h1, List.getElem?_eq_getElem h2] at e
        exact Option.some.inj e
      have hlk : k < ps.length := by omega
      obtain ⟨y0, y1, -, -, -, -⟩ := fl_cells hfl k hlk
      rw [hp k hlk hlt] at y0 y1
      obtain ⟨X, hX⟩ : ∃ X, X = R.1[k] := ⟨_, rfl⟩
      rw [← hX] at y0 y1 hfind hwire hup
      obtain ⟨nk, wk, Nk, Bk, Ak⟩ := X
      simp only [fNum, fWire] at y0 y1 hfind hwire hup
      have HXK := Lib.hid hX
      clear hX
      have HX := Lib.hid (fun W (g : Grew wr W) => And.intro (below_ext g _ _ y0) (below_ext g _ _ y1))
      have HUP := Lib.hid hup
      have HGD := Lib.hid hgood
      have zi : (k : Int) < (R.1.length : Int) := by omega
      have zk : (0 : Int) ≤ (k : Int) := by omega
      have KFI1 := Lib.hid (fun W => by have := KFI.out nk W; rw [hfind] at this; exact this)
      have km := (K11.out.grew hG)
      obtain ⟨c0, -, -, -, -, -, -, -, -, -⟩ := mcells km
      have HKC := Lib.hid (fun W (g : Grew wr W) => below_ext g _ _ c0)
      clear hc
      go_upto_region 14 with (fail)
      go_cut [10, 11] from 44 to 115 (fun x10 x11 wx => SmR r wr x10 x11 wx)
      case first =>
        simp only [foundV, specV] at KFI1
        clear hps hpl hfl hp hlk y0 y1 c0 km hwire hgood hup hfind
        have hS0 : wr.drew.cell? ⟨w.heap.size, 0, none⟩ = some (.int .u8 m.k) ∧ wr.drew.cell? ⟨b, o + k * 5, none⟩ = some (.int .i64 nk) := ⟨HKC.out _ (Drew.grew ⟨1, rfl⟩), (HX.out _ (Drew.grew ⟨1, rfl⟩)).1⟩
        have HKX := Lib.hid (fun W (g : Grew wr W) => And.intro (HKC.out W g) (HX.out W g).1)
        have HD : RowKit.Hid (Grew wr wr.drew) := Lib.hid (Drew.grew ⟨1, rfl⟩)
        have HDA : RowKit.Hid (Grew wr ((wr.alloc (.cells #[.int .i64 0, .int .i64 0, .int .i64 0] 63)).drew)) := Lib.hid (Grew.trans (grew_alloc _ _) (Drew.grew ⟨1, rfl⟩))
        have HNB := Lib.hid ((Blk.new wr 63 #[.int .i64 0, .int .i64 0, .int .i64 0]).drew)
        clear hS0
        go_region_held3 (fun W => W.cell? ⟨w.heap.size, 0, none⟩ = some (.int .u8 m.k) ∧ W.cell? ⟨b, o + k * 5, none⟩ = some (.int .i64 nk)) (first | with_reducible exact HKX.out _ HD.out | with_reducible exact HKX.out _ HDA.out | with_reducible exact HKX.out _ (Grew.trans HD.out g7) | with_reducible exact HKX.out _ (Grew.trans HDA.out g7) | with_reducible exact HKX.out _ (Grew.trans (Grew.trans HD.out g7) (grew_alloc _ _)) | with_reducible exact HKX.out _ (grew_set (grew_set (grew_set (Grew.trans HDA.out g7) (Nat.le_refl _) _) (Nat.le_refl _) _) (Nat.le_refl _) _)) ((go_at_call 39; refine (KFI1.out _).mono ?_; rintro e7 W7 ⟨rfl, g7⟩; (try have kb7 := HNB.out.grew g7); (try have zc0 := kb7.cell 0; have zc1 := kb7.cell 1; have zc2 := kb7.cell 2; have zf0 := kb7.frozen 0; have zf1 := kb7.frozen 1; have zf2 := kb7.frozen 2; simp only [List.getElem?_toArray, List.getElem?_cons_zero, List.getElem?_cons_succ] at zc0 zc1 zc2)))
        all_goals (
          go_wp2_with fail
          go_meet
          first
            | exact ⟨_, rfl, rfl, Blk.new _ _ _, Grew.trans (Grew.trans HD.out g7) (grew_alloc _ _)⟩
            | (have k9 := ((kb7.set 0 (.int .i64 (r.2.1 : Nat))).set 1 (.int .i64 (r.2.2.1 : Nat))).set 2 (.int .i64 (r.2.2.2.1 : Nat))
               simp only [List.setIfInBounds_toArray, List.set_cons_zero, List.set_cons_succ] at k9
               exact ⟨_, rfl, rfl, k9, grew_set (grew_set (grew_set (Grew.trans HDA.out g7) (Nat.le_refl _) _) (Nat.le_refl _) _) (Nat.le_refl _) _⟩))
      case rest =>
        obtain ⟨p, rfl, rfl, hbp, gx⟩ := hcut
        have HWV := Lib.hid (show wireV r.2.2.1 = ((wk : Int), true) from Prod.ext hwire.symm hgood)
        have HGC := Lib.hid (Grew.trans HGR.out gx)
        have p1 := hbp.cell 1
        simp only [List.getElem?_toArray, List.getElem?_cons_zero, List.getElem?_cons_succ] at p1
        have x0 := (HX.out _ gx).1
        have x1 := (HX.out _ gx).2
        have hkl := hlk
        clear y0 y1 c0 km hwire hgood hfind KFI1
        go_wp2_with fail
        refine (wire_any r.2.2.1 _).mono ?_
        rw [HWV.out]
        rintro e w8 ⟨rfl, rfl⟩
        by_cases hk0 : k = 0
        · subst hk0
          have zk0 : decide (((0 : Nat) : Int) > 0) = false := by decide
          have HXC := Lib.hid (fun W (g : Grew wc W) => And.intro (below_ext g _ _ x0) (And.intro (below_ext g _ _ x1) (below_ext g _ _ p1)))
          clear hup HUP x0 x1 p1
          go_upto_region 16 with (fail)
          refine wp_region_grew wc (Below.refl _ _) (by kernel_rfl) (by kernel_rfl) ?_
          repeat (
            first
              | go_big_quiet_skip
              | (go_big_quiet_want; go_big_quiet_op; go_big_quiet_on)
              | (refine BigFrame.wpQuiet_want (by kernel_rfl) (fun K hK => ?_)
                 apply Exists.intro
                 apply And.intro
                 · intro W hW
                   obtain ⟨j0, j1, j2⟩ := HXC.out W hW.out
                   go_simp
                   first
                     | done
                     | rfl
                 refine hK _ ?_
                 clear hK K)
            try simp only [Act.put, List.setIfInBounds_toArray, List.set_cons_zero, List.set_cons_succ])
          refine wpQuiet_nil ?_
          intro w9 g9
          have HG9 := Lib.hid (Grew.trans HGC.out g9.out)
          clear g9
          go_wp2
          refine ⟨⟨0 + 1, by omega, by go_num, HG9.out⟩, ?_⟩
          simp [intOf]; omega
        · obtain ⟨j, hjk⟩ : ∃ j, j + 1 = k := ⟨k - 1, by omega⟩
          have zkn : decide (0 < k) = true := decide_eq_true (by omega)
          have hj := HUP.out j hjk
          obtain ⟨y0, -, -, -, -, -⟩ := fl_cells (hfl.grew gx) j (by omega)
          rw [hp j (by omega) (by omega)] at y0
          generalize R.1[j] = Y at y0 hj
          obtain ⟨nj, wj, Nj, Bj, Aj⟩ := Y
          simp only [] at y0 hj
          have hwr : IntKind.i64.wrap ((k : Int) - 1) = (j : Int) := by rw [IntKind.wrap_i64]; omega
          have zj : (0 : Int) ≤ (j : Int) := by omega
          have zjl : (j : Int) < (R.1.length : Int) := by omega
          have q1 : decide (nk < nj) = false := by simp; omega
          have HXC := Lib.hid (fun W (g : Grew wc W) => And.intro (below_ext g _ _ x0) (And.intro (below_ext g _ _ x1) (And.intro (below_ext g _ _ p1) (below_ext g _ _ y0))))
          have HJ := Lib.hid hj
          clear hup HUP x0 x1 p1 y0 hj hfl hp hps hjk hk0
          go_upto_region 16 with (fail)
          rcases HJ.out with hlt2 | ⟨heq, h10⟩
          · have q2 : (nk == nj) = false := by simp; omega
            clear hlt2
            refine wp_region_grew wc (Below.refl _ _) (by kernel_rfl) (by kernel_rfl) ?_
            repeat (
              first
                | go_big_quiet_skip
                | (go_big_quiet_want; go_big_quiet_op; go_big_quiet_on)
                | (refine BigFrame.wpQuiet_want (by kernel_rfl) (fun K hK => ?_)
                   apply Exists.intro
                   apply And.intro
                   · intro W hW
                     obtain ⟨j0, j1, j2, j3⟩ := HXC.out W hW.out
                     go_simp
                     first
                       | done
                       | rfl
                   refine hK _ ?_
                   clear hK K)
              try simp only [Act.put, List.setIfInBounds_toArray, List.set_cons_zero, List.set_cons_succ])
            refine wpQuiet_nil ?_
            intro w9 g9
            have HG9 := Lib.hid (Grew.trans HGC.out g9.out)
            clear g9
            go_wp2
            refine ⟨⟨k + 1, by omega, by go_num, HG9.out⟩, ?_⟩
            simp [intOf]; omega
          · have q2 : (nk == nj) = true := by simp; omega
            have q3 : ((r.2.2.1 : Int) != 10) = false := by simp; omega
            clear heq h10
            refine wp_region_grew wc (Below.refl _ _) (by kernel_rfl) (by kernel_rfl) ?_
            repeat (
              first
                | go_big_quiet_skip
                | (go_big_quiet_want; go_big_quiet_op; go_big_quiet_on)
                | (refine BigFrame.wpQuiet_want (by kernel_rfl) (fun K hK => ?_)
                   apply Exists.intro
                   apply And.intro
                   · intro W hW
                     obtain ⟨j0, j1, j2, j3⟩ := HXC.out W hW.out
                     go_simp
                     first
                       | done
                       | rfl
                   refine hK _ ?_
                   clear hK K)
              try simp only [Act.put, List.setIfInBounds_toArray, List.set_cons_zero, List.set_cons_succ])
            refine wpQuiet_nil ?_
            intro w9 g9
            have HG9 := Lib.hid (Grew.trans HGC.out g9.out)
            clear g9
            go_wp2
            refine ⟨⟨k + 1, by omega, by go_num, HG9.out⟩, ?_⟩
            simp [intOf]; omega
    · obtain rfl : k = R.1.length := by omega
      clear hG
      go_wp2
      go_ret
      exact ⟨rfl, G5.out.trans HGR.out⟩
end Go.Proofs.Ytgoaijpckckdnaa
