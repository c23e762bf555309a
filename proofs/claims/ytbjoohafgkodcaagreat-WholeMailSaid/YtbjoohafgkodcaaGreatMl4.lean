/- WholeMail: the walk. -/
import Derived.Test.YtbjoohafgkodcaaGreatMl3
import Derived.Test.YtbjoohafgkodcaaGreatAwS
import Derived.Test.YtbjoohafgkodcaaGreatFc1
import Derived.Test.YtbjoohafgkodcaaGreatSs3
import Derived.Test.YtbjoohafgkodcaaGreatHld
import Derived.Deep.CutRange
import Derived.Deep.CutBlock
namespace Go.Proofs.YtbjoohafgkodcaaGreat
open Go Go.RowKit Go.Shelf
attribute [local go_sem] Oper.semAt_some

theorem bs_fr9 {W W' : World} {v : Value} {l : List UInt8} {p : Nat} {t : TypeId} {c0 : Option Addr} {c1 c2 : Nat} {n : Int} {b : Bool} (h : Bs W v l) (hp : Blk W p t #[.slice c0 c1 c2, .int .i64 n, .bool b]) (f : Fr (· = p) W W') : Bs W' v l :=
  h.fr f fun g hg hne => h.not_blk hp (fun u hu hm => by
    cases l with
    | nil => simp [bv] at hu
    | cons x l =>
      simp [bv] at hu
      subst hu
      simp at hm) g hg hne
set_option maxRecDepth 100000 in
set_option maxHeartbeats 8000000 in
theorem wmail_walk (A : List MV) (s : List Int) (v u : Value) (ver : Int) (w : World) (hA : MsR w v A) (hAn : ∀ x ∈ A, ∀ i, i < 6 → x.1.n i < 18446744073709551616) (hs : Sl w u s.length 1 (iiv s)) (hsb : ∀ z ∈ s, -9223372036854775808 ≤ z ∧ z ≤ 9223372036854775807) :
    Calls Tryz.prog 6 #[v, .int .i64 ver, u] w fun e w' => e = .returned (.bool true) ∧ Grew w w' := by
  obtain ⟨a, n', c, rfl, hn', -, hcm⟩ := hA.open
  subst hn'
  obtain ⟨sa, sc, rfl, -⟩ := hs.open
  have HA := Lib.hid hA
  have HAN := Lib.hid hAn
  have HS := Lib.hid hs
  have HSB := Lib.hid hsb
  clear hA hAn hs hsb
  go_enter Tryz.func6, Tryz.ntmps6
  go_wp2_with fail
  refine (awakeS_any _).mono ?_
  rintro e w1 ⟨rfl, g1⟩
  have G1 := Lib.hid g1
  clear g1
  by_cases hl : 10 < A.length
  · have q : decide ((A.length : Int) > 10) = true := decide_eq_true (by omega)
    go_wp2
    go_ret
    exact ⟨rfl, G1.out⟩
  have q : decide ((A.length : Int) > 10) = false := decide_eq_false (by omega)
  by_cases hl2 : 10 < s.length
  · have q2 : decide ((s.length : Int) > 10) = true := decide_eq_true (by omega)
    go_wp2
    go_ret
    exact ⟨rfl, G1.out⟩
  have q2 : decide ((s.length : Int) > 10) = false := decide_eq_false (by omega)
  have hal : A.length ≤ 10 := by omega
  clear hl hl2
  go_wp2_with fail
  go_loopw [7, 8, 9] (fun vs vf ix wr => ∃ (k : Nat) (S : List MV) (F : List FA), k ≤ A.length ∧ ix = .int .i64 k ∧ OwnR wr w1.heap.size vs S ∧ FsO wr w1.heap.size vf F ∧ RowKit.Hid (S = (A.take k).filter (okF ver) ∧ F.map (·.1) = S.map (fun x => mFrm ver x.1)) ∧ Grew w1 wr) (fun _ _ ix _ => A.length - (intOf ix).toNat)
  case atStart => exact ⟨0, [], [], Nat.zero_le _, rfl, World.ownsRow_nil _ _ _ _, FsO.nil _ _, Lib.hid ⟨by simp, rfl⟩, Below.refl _ _⟩
  case round =>
    obtain ⟨k, S, F, hk, rfl, hS, hF, hSF, hG⟩ := hrel
    have hSl : S.length ≤ k := by rw [hSF.out.1]; refine Nat.le_trans (List.length_filter_le _ _) (by simp; omega)
    have hFl : F.length = S.length := by have := congrArg List.length hSF.out.2; rwa [List.length_map, List.length_map] at this
    have HFl := Lib.hid hFl
    clear hFl
    obtain ⟨aS, cS, rfl, -⟩ := (Sl.of_own hS).open
    obtain ⟨af, nf, cf, rfl, hnf, -⟩ := hF.fsr.open
    subst hnf
    have RS := Lib.hid hS
    have RF := Lib.hid hF
    have GG := Lib.hid hG
    clear hS hF hG
    by_cases hlt : k < A.length
    · obtain ⟨b, o, rfl, hcl⟩ := HA.out.cells (by omega)
      obtain ⟨xat, xtx⟩ := hcl k hlt
      have hxn := HAN.out A[k] (List.getElem_mem hlt)
      have hts : (A.take (k + 1)).filter (okF ver) = S ++ [A[k]].filter (okF ver) := by rw [List.take_succ_eq_append_getElem hlt, List.filter_append, hSF.out.1]
      obtain ⟨⟨m, mv⟩, hr⟩ : ∃ r, r = A[k] := ⟨_, rfl⟩
      rw [← hr] at xat xtx hxn hts
      simp only at xtx hxn
      obtain ⟨ma, mc, rfl⟩ := tx_len xtx
      have XA := Lib.hid (fun W (g : Grew w W) => xat.grew g)
      have XT := Lib.hid xtx
      have HXN := Lib.hid hxn
      have HTS := Lib.hid hts
      have z0 : (0 : Int) ≤ (k : Int) := by omega
      have z1 : (k : Int) < (A.length : Int) := by omega
      have GWR := Lib.hid (G1.out.trans GG.out)
      have KSM := Lib.hid (small9_any m (.slice ma m.l.length mc) wr (XT.out.grew GWR.out))
      obtain ⟨c0, c1, c2, c3, c4, c5, c6, c7, c8, c9⟩ := XA.out wr GWR.out
      simp only [msgA] at KSM
      clear hcl xat xtx hxn hts hr
      go_wp2_with fail
      refine KSM.out.mono ?_
      rintro e w2 ⟨rfl, g2⟩
      have M2 := Lib.hid g2
      have GW2 := Lib.hid (GWR.out.trans g2)
      clear g2 c0 c1 c2 c3 c4 c5 c6 c7 c8 c9 KSM
      cases hsm : smallB m with
      | false =>
        clear hsm
        go_wp2
        go_ret
        exact ⟨rfl, GW2.out⟩
      | true =>
      have KE := Lib.hid (frameof_any m ma mc ver w2 (small_ok hsm HXN.out) (XT.out.grew GW2.out))
      have HDEC := Lib.hid (fun h => mfrm_dec (m := m) (ver := ver) h HXN.out)
      have hmf : mFrm ver m = (UInt8.ofNat m.k, msgB m (ofKind m.k (rowsIn ver))) := rfl
      obtain ⟨E, hE⟩ : ∃ E, E = chkM m (ofKind m.k (rowsIn ver)) := ⟨_, rfl⟩
      have hok : okF ver (m, .slice ma m.l.length mc) = (E.1 == 0) := by rw [hE]; rfl
      obtain ⟨Bm, hB⟩ : ∃ B, B = msgB m (ofKind m.k (rowsIn ver)) := ⟨_, rfl⟩
      rw [← hE, ← hB] at KE
      rw [← hE] at HDEC
      rw [← hB] at hmf
      obtain ⟨fm, hfm⟩ : ∃ f, f = mFrm ver m := ⟨_, rfl⟩
      rw [← hfm] at HDEC hmf
      have HOK := Lib.hid hok
      have HMF := Lib.hid hmf
      have HFM := Lib.hid hfm
      simp only [msgA, fltV] at KE
      obtain ⟨c0, c1, c2, c3, c4, c5, c6, c7, c8, c9⟩ := XA.out w2 GW2.out
      clear hE hB hsm hok hmf hfm
      obtain ⟨E1, E2⟩ := E
      go_wp2_with fail
      refine KE.out.mono ?_
      rintro e w3 ⟨v3, rfl, ho3, g3⟩
      obtain ⟨a3, c3', rfl⟩ := bs_len (Sl.of_own ho3)
      obtain ⟨V3, hV3⟩ : ∃ V, V = (w3.alloc (.cells #[.int .u8 (ofK E1 m.k : Nat), .slice a3 Bm.length c3'] 42)).alloc (.cells #[.int .i64 (E1 : Nat), .int .i64 (E2 : Nat)] 32) := ⟨_, rfl⟩
      have gv : Grew w3 V3 := by rw [hV3]; exact grew22 _ _ _
      have kb : Blk V3 w3.heap.size 42 #[.int .u8 (ofK E1 m.k : Nat), .slice a3 Bm.length c3'] := by rw [hV3]; exact (Blk.new _ _ _).alloc _
      have kf : Blk V3 (w3.heap.size + 1) 32 #[.int .i64 (E1 : Nat), .int .i64 (E2 : Nat)] := by rw [hV3]; exact Blk.at (by simp)
      have M3 := Lib.hid ((M2.out.trans g3).trans gv)
      have O3 := Lib.hid (own_mono (own_grew ho3 gv) (Nat.le_trans GG.out.size M2.out.size))
      have G3 := Lib.hid (GG.out.trans M3.out)
      have GW3 := Lib.hid (G1.out.trans G3.out)
      have RS3 := Lib.hid (own_grew RS.out M3.out)
      have RF3 := Lib.hid (RF.out.grew M3.out)
      obtain ⟨x0, x1, -, -⟩ := cells_of kf
      obtain ⟨y0, y1, -, -⟩ := cells2 kb
      clear gv kf kb ho3 g3 c0 c1 c2 c3 c4 c5 c6 c7 c8 c9 KE RS RF
      go_upto_region 13 with (fail)
      rw [← hV3]
      clear hV3
      by_cases he : E1 = 0
      · have qe : ((E1 : Int) == 0) = true := by simp [he]
        obtain ⟨d1, d2, -, -⟩ := HDEC.out he
        have hk0 : ofK E1 m.k = m.k := by unfold ofK; rw [if_pos he]
        have hts2 : (A.take (k + 1)).filter (okF ver) = S ++ [(m, .slice ma m.l.length mc)] := by
          rw [HTS.out]; simp [HOK.out, he]
        have HT2 := Lib.hid hts2
        have hf2 : fm.2 = Bm := by rw [HMF.out]
        have D1 := Lib.hid d1
        have HF2 := Lib.hid hf2
        rw [hk0] at y0
        have gA := grew_alloc V3 (.cells #[.int .u8 (m.k : Nat), .slice a3 Bm.length c3'] 42)
        have hsl : Sl (V3.alloc (.cells #[.int .u8 (m.k : Nat), .slice a3 Bm.length c3'] 42)) (.slice (some ⟨V3.heap.size, 0, none⟩) 1 1) 1 2 (fav (fm, .slice a3 Bm.length c3')) := by
          have h := Sl.lit V3 42 (0, 0) #[.int .u8 (m.k : Nat), .slice a3 Bm.length c3'] 1 2 rfl (by unfold maxLen; omega)
          have e : fav (fm, .slice a3 Bm.length c3') = #[Value.int .u8 (m.k : Nat), .slice a3 Bm.length c3'].toList := by unfold fav; rw [d1]
          rw [e]; exact h
        have HSL := Lib.hid hsl
        have RF4 := Lib.hid (RF3.out.grew gA)
        have RS4 := Lib.hid (own_grew RS3.out gA)
        have PV4 := Lib.hid (show PayV (V3.alloc (.cells #[.int .u8 (m.k : Nat), .slice a3 Bm.length c3'] 42)) w1.heap.size (.slice a3 Bm.length c3') fm.2 by rw [hf2]; exact PayV.of_own (own_grew O3.out gA))
        have G4 := Lib.hid (G3.out.trans gA)
        have hfl1 : F.length + 1 ≤ 1000000000 := by have := HFl.out; omega
        have hsl1 : S.length + 1 ≤ 1000000000 := by omega
        clear he d1 d2 hk0 hts2 hf2 gA hsl x1 HDEC
        go_wp2_with (first
          | (at_builtin; refine wpList_pushFrG rfl _ _ rfl w1.heap.size (.slice af F.length cf) F rfl RF4.out _ rfl (fm, .slice a3 Bm.length c3') HSL.out PV4.out hfl1 G4.out.size ?_; intro v5 w5 h5 hB5 hg5; have G5 := Lib.hid (show Grew w1 w5 from Below.trans G4.out hB5); have RF5 := Lib.hid h5; have RS5 := Lib.hid (own_kept RS4.out hg5 (own_ne2 RS4.out RF4.out.1 (by decide))); obtain ⟨c0, c1, c2, c3, c4, c5, c6, c7, c8, c9⟩ := XA.out w5 (G1.out.trans G5.out); clear h5 hB5 hg5)
          | (at_builtin; refine wpList_pushM rfl _ _ rfl w1.heap.size (.slice aS S.length cS) S rfl (own_grew RS5.out (grew_alloc w5 (.cells (msgA m (.slice ma m.l.length mc)) 29))) _ rfl (m, .slice ma m.l.length mc) (Sl.lit w5 29 (0, 0) (msgA m (.slice ma m.l.length mc)) 1 10 rfl (by unfold maxLen; omega)) ⟨_, _, _, rfl⟩ hsl1 (G5.out.trans (grew_alloc w5 (.cells (msgA m (.slice ma m.l.length mc)) 29))).size ?_; intro v6 w6 h6 hB6 hg6))
        have G6 := Lib.hid (show Grew w1 w6 from Below.trans (G5.out.trans (grew_alloc w5 (.cells (msgA m (.slice ma m.l.length mc)) 29))) hB6)
        have RF6 := Lib.hid ((RF5.out.grew (grew_alloc w5 (.cells (msgA m (.slice ma m.l.length mc)) 29))).kept (own_grew RS5.out (grew_alloc w5 (.cells (msgA m (.slice ma m.l.length mc)) 29))) hg6)
        have RS6 := Lib.hid h6
        refine ⟨⟨k + 1, S ++ [(m, .slice ma m.l.length mc)], F ++ [(fm, .slice a3 Bm.length c3')], by omega, by go_num, RS6.out, RF6.out, Lib.hid ⟨HT2.out.symm, by rw [List.map_append, List.map_append, hSF.out.2]; simp [HFM.out]⟩, G6.out⟩, ?_⟩
        simp [intOf]; omega
      · have qe : ((E1 : Int) == 0) = false := by simp [he]
        have hts2 : (A.take (k + 1)).filter (okF ver) = S := by rw [HTS.out]; simp [HOK.out, he]
        have HT2 := Lib.hid hts2
        clear he hts2 x1 HDEC
        go_wp2
        go_roundw
        case rel => exact ⟨k + 1, S, F, by omega, by go_num, RS3.out, RF3.out, Lib.hid ⟨HT2.out.symm, hSF.out.2⟩, G3.out⟩
        case measure => simp [intOf]; omega
    · have z9 : ¬ (k : Int) < (A.length : Int) := by omega
      have hSE := hSF.out.1
      rw [List.take_of_length_le (by omega)] at hSE
      obtain ⟨fs, hfs⟩ : ∃ fs, fs = S.map (fun x => mFrm ver x.1) := ⟨_, rfl⟩
      have hFm : F.map (·.1) = fs := by rw [hfs]; exact hSF.out.2
      have hSok : ∀ x ∈ S, (chkM x.1 (ofKind x.1.k (rowsIn ver))).1 = 0 ∧ (∀ i, i < 6 → x.1.n i < 18446744073709551616) ∧ Tx w x.2 x.1.l := fun x hx => by
        rw [hSE, List.mem_filter] at hx
        exact ⟨by simpa [okF] using hx.2, HAN.out x hx.1, HA.out.2 x hx.1⟩
      have hf8 : ∀ f ∈ fs, f.2.length ≤ 8192 := fun f hf => by
        rw [hfs] at hf
        obtain ⟨x, hx, rfl⟩ := List.mem_map.1 hf
        exact (mfrm_dec (hSok x hx).1 (hSok x hx).2.1).2.1
      have hfl : fs.length = S.length := by rw [hfs, List.length_map]
      have kfr := sframes_any F (.slice af F.length cf) wr RF.out.fsr (by have := HFl.out; omega)
      rw [hFm, framesM_ok hf8] at kfr
      have KFR := Lib.hid kfr
      have HSOK := Lib.hid hSok
      have HF8 := Lib.hid hf8
      have HFS := Lib.hid hfs
      have HFLE := Lib.hid hfl
      have hjl : (fjoin fs).length ≤ 82010 := by have := fjoin_most fs hf8; omega
      have GWR := Lib.hid (G1.out.trans GG.out)
      simp only [faultS, Int.natCast_zero] at KFR
      clear hSF hSE hFm hSok hf8 hfs hfl kfr
      go_wp2_with fail
      refine (KFR.out).mono ?_
      rintro e w6 ⟨v6, rfl, ho6, g6⟩
      obtain ⟨a6, c6', rfl⟩ := bs_len (Sl.of_own ho6)
      obtain ⟨V6, hV6⟩ : ∃ V, V = w6.alloc (.cells #[.int .i64 0, .int .i64 0] 32) := ⟨_, rfl⟩
      have gv : Grew w6 V6 := by rw [hV6]; exact grew_alloc _ _
      have KF6 := Lib.hid (show Blk V6 w6.heap.size 32 #[.int .i64 0, .int .i64 0] by rw [hV6]; exact Blk.new _ _ _)
      have M6 := Lib.hid (g6.trans gv)
      have G6 := Lib.hid (GWR.out.trans M6.out)
      have O6 := Lib.hid (Sl.of_own (own_grew ho6 gv))
      have RS6 := Lib.hid (own_grew RS.out M6.out)
      clear gv g6 KFR ho6
      go_upto_region 17 with (fail)
      rw [← hV6]
      clear hV6
      go_wp2_with fail
      refine (fnew_any _).mono ?_
      rintro e w7 ⟨rfl, d7, g7⟩
      obtain ⟨pf, hpf⟩ : ∃ pf, pf = V6.heap.size := ⟨_, rfl⟩
      have HPFB := Lib.hid (show w1.heap.size ≤ pf by rw [hpf]; exact (GG.out.trans M6.out).size)
      rw [← hpf] at d7 ⊢
      have M7 := Lib.hid g7
      have G7 := Lib.hid (G6.out.trans g7)
      have RS7 := Lib.hid (own_grew RS6.out g7)
      have O7 := Lib.hid (O6.out.grew g7)
      obtain ⟨x0, x1, -, -⟩ := cells_of (KF6.out.grew g7)
      have KCU := Lib.hid (scut_any (fjoin fs) s _ _ w7 O7.out (HS.out.grew G7.out) HSB.out (by omega))
      have D7 := Lib.hid d7
      clear hpf d7 g7 RS RF
      go_wp2_with fail
      refine KCU.out.mono ?_
      rintro e w8 ⟨v8, rfl, ⟨ps, hpo, hpb, hpm⟩, g8⟩
      obtain ⟨a8, c8, rfl, -⟩ := (Sl.of_own hpo).open
      have hpl : ps.length ≤ 100000 := by
        have h1 := congrArg List.length hpm
        have h2 := cutM_len s (fjoin fs)
        rw [List.length_map] at h1; omega
      have hpj : (ps.map (·.2)).flatten = fjoin fs := by rw [hpm]; exact cutF_join s _ _ 0 (Nat.le_refl _)
      have D8 := Lib.hid (D7.out.grew g8)
      have PO := Lib.hid hpo
      have PB := Lib.hid hpb
      have PJ := Lib.hid hpj
      have G8 := Lib.hid (G7.out.trans g8)
      have RS8 := Lib.hid (own_grew RS7.out g8)
      have hpf8 : pf < w8.heap.size := by obtain ⟨_, h1, _⟩ := D8.out; exact h1.lt
      have KP8 := Lib.hid (show ∃ c0 c1 c2, Blk w8 pf 86 #[.slice c0 c1 c2, .int .i64 0, .bool false] by
        obtain ⟨q, h1, h2, -⟩ := D8.out
        obtain ⟨qa, qc, e, -⟩ := (Sl.of_own h2).open
        exact ⟨_, _, _, by rw [e] at h1; exact h1⟩)
      clear hpo hpb hpm hpj g8 KCU x0 x1
      go_wp2_with fail
      go_loopw [15, 17] (fun vg ix wr => ∃ (i told : Nat) (G : List MV) (K : List UInt8) (n : Nat) (Fs : Nat → Prop), i ≤ ps.length ∧ ix = .int .i64 i ∧ MlI ver pf w8 pf S ((ps.take i).map (·.2)).flatten vg wr G K n told Fs) (fun _ ix _ => ps.length - (intOf ix).toNat)
      case atStart => exact ⟨0, 0, [], [], 0, _, Nat.zero_le _, rfl, ⟨D8.out, fun k hk => .inl hk, fInv.nil, Fr.refl _ _, MsO.nil _ _, rfl, Nat.zero_le _⟩⟩
      case round =>
        obtain ⟨i, told, G, K, n, Fs, hi, rfl, hI⟩ := hrel
        by_cases hlt2 : i < ps.length
        · have z2 : (0 : Int) ≤ (i : Int) := by omega
          have z3 : (i : Int) < (ps.length : Int) := by omega
          obtain ⟨k0, k1, k2, kb8⟩ := KP8.out
          have hpfw : pf < w7.heap.size := by obtain ⟨_, h3, _⟩ := D7.out; exact h3.lt
          have hpo := own_fr PO.out hI.fr (fun g hg e => by have h1 := (own_lt PO.out g hg).1; omega)
          clear hpfw
          obtain ⟨a', c', e', -, -, -, ph⟩ := (Sl.of_own hpo).open
          cases e'
          obtain ⟨bp, op, rfl, pc⟩ := ph (by omega)
          have x0 := pc i ps[i].1 (by rw [List.getElem?_map, List.getElem?_eq_getElem hlt2]; rfl)
          have hbm := bs_fr9 (PB.out ps[i] (List.getElem_mem hlt2)) kb8 hI.fr
          have e9 : (((ps.take i).map (·.2)).flatten ++ ps[i].2) ++ ((ps.drop (i + 1)).map (·.2)).flatten = fjoin fs := by
            rw [← PJ.out]
            have h1 : ps = ps.take i ++ (ps[i] :: ps.drop (i + 1)) := by rw [← List.drop_eq_getElem_cons hlt2, List.take_append_drop]
            conv => rhs; rw [h1, List.map_append, List.map_cons, List.flatten_append, List.flatten_cons]
            rw [List.append_assoc]
          have e8 : ((ps.take (i + 1)).map (·.2)).flatten = ((ps.take i).map (·.2)).flatten ++ ps[i].2 := by
            rw [List.take_succ_eq_append_getElem hlt2, List.map_append, List.flatten_append]
            simp only [List.map_cons, List.map_nil, List.flatten_cons, List.flatten_nil, List.append_nil]
          have hbl : (((ps.take i).map (·.2)).flatten).length + (ps[i].2).length ≤ 82010 := by
            have h1 := congrArg List.length e9
            rw [List.length_append, List.length_append] at h1
            omega
          have hle := hI.inv.le
          obtain ⟨told', hi1, ho1, ht1, ht2, hlo⟩ := mail_step HF8.out hI.inv e9
          obtain ⟨m, hm⟩ : ∃ m, m = ps[i].2 := ⟨_, rfl⟩
          obtain ⟨pv, hpv⟩ : ∃ m, m = ps[i].1 := ⟨_, rfl⟩
          rw [← hm] at hbm hbl hi1 ho1 hlo e8
          rw [← hpv] at hbm x0
          obtain ⟨pa, pn, pcc, rfl, -⟩ := bs_shape hbm
          have KFE := Lib.hid (ffeed_any pf Fs pf K m n false _ wr hI.fd hbm (by omega) (by omega))
          obtain ⟨K', hK'⟩ : ∃ K', K' = fdK K m false := ⟨_, rfl⟩
          obtain ⟨N', hN'⟩ : ∃ K', K' = fdN K m n false := ⟨_, rfl⟩
          obtain ⟨out, hout⟩ : ∃ K', K' = fdOut K m n false := ⟨_, rfl⟩
          rw [← hK', ← hN', ← hout] at KFE
          rw [← hK', ← hN'] at hi1
          rw [← hout] at ho1 hlo
          have HI := Lib.hid hI
          have HI1 := Lib.hid hi1
          have HO1 := Lib.hid ho1
          have HLO := Lib.hid hlo
          have HT1 := Lib.hid ht1
          have HT2 := Lib.hid ht2
          have E8 := Lib.hid e8
          clear hI hi1 ho1 hlo ht1 ht2 e8 e9 hbl hle hbm hm hpv hK' hN' hout pc ph hpo kb8
          go_wp2_with fail
          refine KFE.out.mono ?_
          rintro e W1 ⟨vr, rfl, hq⟩
          obtain ⟨F', bq, qs, hqs, hJ⟩ := HI.out.feed hq
          obtain ⟨av, cv, rfl, -⟩ := (Sl.of_own hJ.fo.1).open
          have HQS := Lib.hid hqs
          have HJ0 := Lib.hid hJ
          clear hq hqs hJ KFE x0
          go_wp2_with fail
          go_loopw [15, 19] (fun vg ix wr => ∃ (k : Nat) (G2 : List MV), k ≤ qs.length ∧ ix = .int .i64 k ∧ MlJ ver pf w8 pf S vg wr G2 K' N' told F' bq (.slice av qs.length cv) qs k) (fun _ ix _ => qs.length - (intOf ix).toNat)
          case atStart => exact ⟨0, G, Nat.zero_le _, rfl, HJ0.out⟩
          case round =>
            obtain ⟨j, G2, hj, rfl, hJ⟩ := hrel
            by_cases hlt3 : j < qs.length
            · have z4 : (0 : Int) ≤ (j : Int) := by omega
              have z5 : (j : Int) < (qs.length : Int) := by omega
              obtain ⟨a', c', e', -, -, -, qh⟩ := (Sl.of_own hJ.fo.1).open
              cases e'
              obtain ⟨bb, ob, rfl, -⟩ := qh (by omega)
              obtain ⟨-, x1, x2, x3⟩ := fr_cells hJ.fo.fr j hlt3
              have hol : qs.length = out.length := by rw [← HQS.out, List.length_map]
              obtain ⟨hq1, hq2⟩ := mail_get HO1.out HT2.out HLO.out (k := j) (by omega)
              have hq3 : qs[j].1.2 = fs[told + j] := by
                rw [← hq2]
                congr 1
                have h1 : (qs.map (·.1))[j]? = some qs[j].1 := by rw [List.getElem?_map, List.getElem?_eq_getElem hlt3]; rfl
                rw [HQS.out, List.getElem?_eq_getElem (by omega)] at h1
                exact (Option.some.inj h1).symm
              have hks : told + j < S.length := by have := HFLE.out; omega
              have hq4 : fs[told + j] = mFrm ver S[told + j].1 := by
                have h1 : fs[told + j]? = some (mFrm ver S[told + j].1) := by rw [HFS.out, List.getElem?_map, List.getElem?_eq_getElem hks]; rfl
                rw [List.getElem?_eq_getElem hq1] at h1
                exact Option.some.inj h1
              obtain ⟨ho1, ho2, -⟩ := HSOK.out _ (List.getElem_mem hks)
              obtain ⟨-, hd2, hd3, -⟩ := mfrm_dec ho1 ho2
              obtain ⟨C, hC⟩ : ∃ C, C = clF ver S[told + j] := ⟨_, rfl⟩
              rw [← hq4, ← hq3] at hd2 hd3
              have hd4 : strM qs[j].1.2.1.toNat ver qs[j].1.2.2 = (C, 0, 0) := by rw [hC]; exact hd3
              clear hd3 hq2 hq3 hq4
              generalize qs[j].1.2 = ff at x1 x3 hd2 hd4
              generalize qs[j].2 = fv at x2 x3
              obtain ⟨pa2, pn2, pc2, rfl, -⟩ := bs_shape x3
              have kdx := fun W (g : Grew wr W) => sdecode_any ff.1.toNat ver ff.2 _ W (x3.grew g) (by omega)
              unfold StrP at kdx
              rw [hd4] at kdx
              have KDX := Lib.hid kdx
              simp only [fltI, Int.natCast_zero] at KDX
              have X1 := Lib.hid x1
              have X2 := Lib.hid x2
              have HJ := Lib.hid hJ
              have HCC := Lib.hid hC
              have HKS := Lib.hid hks
              have hw8 : w8.heap.size ≤ wr.heap.size := hJ.fr.size
              have HW8 := Lib.hid hw8
              clear hJ qh x3 ho1 ho2 hd2 hd4 kdx hC hol hw8
              go_upto_region 29 with (fail)
              go_cut [20, 21] from 102 to 118 (fun x20 x21 wx => DcR C w8.heap.size wr x20 x21 wx)
              case first =>
                refine wp_region_held_drew (S := fun V => Grew wr V) (by kernel_rfl) (Drew.grew ⟨1, rfl⟩) (fun hHeld => ?_)
                have HS0 := Lib.hid hHeld
                clear hHeld
                obtain ⟨Z0, hZ0⟩ : ∃ Z, Z = wr.drew := ⟨_, rfl⟩
                rw [← hZ0] at HS0 ⊢
                clear hZ0
                have HS9 := HS0
                refine wpAnyH_take (i := 0) (oi := _) (v := ?_) rfl (by kernel_rfl) (by kernel_rfl) (by kernel_rfl) (fun _ _ _ h => h) (Or.inl ⟨by rfl, ?_⟩) HS9.out ?_
                rotate_left
                · (intro W hW; go_simp; try with_reducible rfl)
                (try simp only [Act.put, List.setIfInBounds_toArray])
                refine wpAnyH_take (i := 1) (oi := _) (v := ?_) rfl (by kernel_rfl) (by kernel_rfl) (by kernel_rfl) (fun _ _ _ h => h) (Or.inl ⟨by rfl, ?_⟩) HS9.out ?_
                rotate_left
                · (intro W hW; go_simp; try with_reducible rfl)
                (try simp only [Act.put])
                refine wpAnyH_take (i := 2) (oi := _) (v := ?_) rfl (by kernel_rfl) (by kernel_rfl) (by kernel_rfl) (fun _ _ _ h => h) (Or.inl ⟨by rfl, ?_⟩) HS9.out ?_
                rotate_left
                · (intro W hW; go_simp; try with_reducible rfl)
                (try simp only [Act.put])
                refine wpAnyH_take (i := 3) (oi := _) (v := ?_) rfl (by kernel_rfl) (by kernel_rfl) (by kernel_rfl) (fun _ _ _ h => h) (Or.inl ⟨by rfl, ?_⟩) HS9.out ?_
                rotate_left
                · (intro W hW; go_simp; try with_reducible rfl)
                (try simp only [Act.put])
                refine wpAnyH_take (i := 4) (oi := _) (v := ?_) rfl (by kernel_rfl) (by kernel_rfl) (by kernel_rfl) (fun _ _ _ h => h) (Or.inl ⟨by rfl, ?_⟩) HS9.out ?_
                rotate_left
                · (intro W hW; go_simp; try with_reducible rfl)
                (try simp only [Act.put])
                refine wpAnyH_take (i := 5) (oi := _) (v := ?_) rfl (by kernel_rfl) (by kernel_rfl) (by kernel_rfl) (fun _ _ _ h => h) (Or.inl ⟨by rfl, ?_⟩) HS9.out ?_
                rotate_left
                · (intro W hW; have y1 := below_ext hW _ _ X1.out; have y2 := below_ext hW _ _ X2.out; go_simp; try with_reducible rfl)
                (try simp only [Act.put])
                refine wpAnyH_take (i := 6) (oi := _) (v := ?_) rfl (by kernel_rfl) (by kernel_rfl) (by kernel_rfl) (fun _ _ _ h => h) (Or.inl ⟨by rfl, ?_⟩) HS9.out ?_
                rotate_left
                · (intro W hW; go_simp; try with_reducible rfl)
                (try simp only [Act.put])
                refine wpAnyH_take (i := 7) (oi := _) (v := ?_) rfl (by kernel_rfl) (by kernel_rfl) (by kernel_rfl) (fun _ _ _ h => h) (Or.inl ⟨by rfl, ?_⟩) HS9.out ?_
                rotate_left
                · (intro W hW; go_simp; try with_reducible rfl)
                (try simp only [Act.put])
                refine wpAnyH_take (i := 8) (oi := _) (v := ?_) rfl (by kernel_rfl) (by kernel_rfl) (by kernel_rfl) (fun _ _ _ h => h) (Or.inl ⟨by rfl, ?_⟩) HS9.out ?_
                rotate_left
                · (intro W hW; go_simp; try with_reducible rfl)
                (try simp only [Act.put])
                refine wpAnyH_take (i := 9) (oi := _) (v := ?_) rfl (by kernel_rfl) (by kernel_rfl) (by kernel_rfl) (fun _ _ _ h => h) (Or.inl ⟨by rfl, ?_⟩) HS9.out ?_
                rotate_left
                · (intro W hW; go_simp; try with_reducible rfl)
                (try simp only [Act.put])
                refine wpAnyH_take (i := 10) (oi := _) (v := ?_) rfl (by kernel_rfl) (by kernel_rfl) (by kernel_rfl) (fun _ _ _ h => h) (Or.inl ⟨by rfl, ?_⟩) HS9.out ?_
                rotate_left
                · (intro W hW; go_simp; try with_reducible rfl)
                (try simp only [Act.put])
                refine wpAnyH_take (i := 11) (oi := _) (v := ?_) rfl (by kernel_rfl) (by kernel_rfl) (by kernel_rfl) (fun _ _ _ h => h) (Or.inl ⟨by rfl, ?_⟩) HS9.out ?_
                rotate_left
                · (intro W hW; go_simp; try with_reducible rfl)
                (try simp only [Act.put])
                refine wpAnyH_take (i := 12) (oi := _) (v := ?_) rfl (by kernel_rfl) (by kernel_rfl) (by kernel_rfl) (fun _ _ _ h => h) (Or.inl ⟨by rfl, ?_⟩) HS9.out ?_
                rotate_left
                · (intro W hW; have y1 := below_ext hW _ _ X1.out; have y2 := below_ext hW _ _ X2.out; go_simp; try with_reducible rfl)
                (try simp only [Act.put])
                refine wpAnyH_ready (rs := [13, 17, 18]) (by kernel_rfl) (by simp) ?_
                refine AllReadyH.cons (o := _) rfl (fun K hK => ?_) (AllReadyH.cons (o := _) rfl (fun K hK => ?_) (AllReadyH.cons (o := _) rfl (fun K hK => ?_) AllReadyH.nil))
                · skip
                  go_simp
                  refine (KDX.out Z0 HS9.out).mono ?_
                  rintro e Y1 ⟨lx, rfl, hox, gx⟩
                  obtain ⟨la, lc, rfl⟩ := tx_len (Sl.of_own hox)
                  have HSn := Lib.hid (show Grew wr Y1 from HS9.out.trans gx)
                  have HC := Lib.hid (own_mono (base' := w8.heap.size) hox (Nat.le_trans HW8.out HS9.out.size))
                  clear hox gx HS9
                  have HS9 := HSn
                  clear HSn
                  go_simp
                  refine hK.out _ _ HS9.out (fun _ => ?_)
                  clear hK K
                  (try simp only [Act.put, List.setIfInBounds_toArray, List.set_cons_zero, List.set_cons_succ])
                  refine wpAnyH_take (i := 14) (oi := ⟨some 102, _, _, _, _, _⟩) (v := .tuple #[.agg (msgA C (.slice la C.l.length lc)), .agg #[.int .i64 0, .int .i64 0]]) rfl (by kernel_rfl) (by kernel_rfl) (by kernel_rfl) (fun _ _ _ h => h) (Or.inl ⟨by rfl, ?_⟩) HS9.out ?_
                  · intro V hV
                    go_simp
                    try rfl
                  (try simp only [Act.put, List.setIfInBounds_toArray, List.set_cons_zero, List.set_cons_succ])
                  refine wpAnyH_take (i := 15) (oi := ⟨some 117, _, _, _, _, _⟩) (v := .agg (msgA C (.slice la C.l.length lc))) rfl (by kernel_rfl) (by kernel_rfl) (by kernel_rfl) (fun _ _ _ h => h) (Or.inl ⟨by rfl, ?_⟩) HS9.out ?_
                  · intro V hV
                    go_simp
                    try rfl
                  (try simp only [Act.put, List.setIfInBounds_toArray, List.set_cons_zero, List.set_cons_succ])
                  refine wpAnyH_take (i := 16) (oi := ⟨some 118, _, _, _, _, _⟩) (v := .agg #[.int .i64 0, .int .i64 0]) rfl (by kernel_rfl) (by kernel_rfl) (by kernel_rfl) (fun _ _ _ h => h) (Or.inl ⟨by rfl, ?_⟩) HS9.out ?_
                  · intro V hV
                    go_simp
                    try rfl
                  (try simp only [Act.put, List.setIfInBounds_toArray, List.set_cons_zero, List.set_cons_succ])
                  refine wpAnyH_ready (rs := [17, 18]) (by kernel_rfl) (by simp) ?_
                  refine AllReadyH.cons (o := _) rfl (fun K hK => ?_) (AllReadyH.cons (o := _) rfl (fun K hK => ?_) AllReadyH.nil)
                  · skip
                    go_simp
                    obtain ⟨Y2, hY2⟩ : ∃ V, V = Y1.alloc (.cells zMsg 29) := ⟨_, rfl⟩
                    have gx : Grew Y1 Y2 := by rw [hY2]; exact grew_alloc _ _
                    have KX := Lib.hid (show Blk Y2 Y1.heap.size 29 zMsg by rw [hY2]; exact Blk.new _ _ _)
                    have HX := Lib.hid HS9.out.size
                    have HSn := Lib.hid (show Grew wr Y2 from HS9.out.trans gx)
                    have HCn := Lib.hid (own_grew HC.out gx)
                    clear HC
                    have HC := HCn
                    clear HCn
                    clear HS9 gx
                    have HS9 := HSn
                    clear HSn
                    simp only [zMsg] at hY2
                    rw [← hY2]
                    clear hY2
                    refine hK.out _ _ HS9.out (fun _ => ?_)
                    clear hK K
                    (try simp only [Act.put, List.setIfInBounds_toArray, List.set_cons_zero, List.set_cons_succ])
                    refine wpAnyH_ready (rs := [18]) (by kernel_rfl) (by simp) ?_
                    refine AllReadyH.cons (o := _) rfl (fun K hK => ?_) AllReadyH.nil
                    · skip
                      go_simp
                      obtain ⟨Y3, hY3⟩ : ∃ V, V = Y2.alloc (.cells #[.int .i64 0, .int .i64 0] 32) := ⟨_, rfl⟩
                      have gx : Grew Y2 Y3 := by rw [hY3]; exact grew_alloc _ _
                      have KY := Lib.hid (show Blk Y3 Y2.heap.size 32 #[.int .i64 0, .int .i64 0] by rw [hY3]; exact Blk.new _ _ _)
                      have HY := Lib.hid HS9.out.size
                      have HSn := Lib.hid (show Grew wr Y3 from HS9.out.trans gx)
                      have HXY := Lib.hid (show Y1.heap.size ≠ Y2.heap.size by have h := KX.out.lt; omega)
                      have KXn := Lib.hid (KX.out.grew gx)
                      clear KX
                      have KX := KXn
                      clear KXn
                      have HCn := Lib.hid (own_grew HC.out gx)
                      clear HC
                      have HC := HCn
                      clear HCn
                      clear HS9 gx
                      have HS9 := HSn
                      clear HSn
                      rw [← hY3]
                      clear hY3
                      refine hK.out _ _ HS9.out (fun _ => ?_)
                      clear hK K
                      (try simp only [Act.put, List.setIfInBounds_toArray, List.set_cons_zero, List.set_cons_succ])
                      refine wpAnyH_ready (rs := [19]) (by kernel_rfl) (by simp) ?_
                      refine AllReadyH.cons (o := _) rfl (fun K hK => ?_) AllReadyH.nil
                      refine wp_store_row 29 _ _ rfl Y1.heap.size (msgA C (.slice la C.l.length lc)) rfl rfl 29 _ KX.out (by kernel_rfl) rfl (msgA_one _ _ _ _) ?_
                      obtain ⟨Wm, hWm⟩ : ∃ Wm, Wm = Y3.setRow Y1.heap.size (msgA C (.slice la C.l.length lc)) := ⟨_, rfl⟩
                      have HSm := Lib.hid (show Grew wr Wm by rw [hWm]; exact below_setRow HS9.out HX.out _)
                      have HCm := Lib.hid (show OwnT Wm w8.heap.size (.slice la C.l.length lc) C.l by rw [hWm]; exact own_block HC.out (fun g hg => setRow_other _ _ _ _ (fun e => blk_ne_row KX.out HC.out (by decide) (by subst e; exact hg.symm))))
                      have KXm := Lib.hid (show Blk Wm Y1.heap.size 29 (msgA C (.slice la C.l.length lc)) by rw [hWm]; exact KX.out.row _)
                      have KYm := Lib.hid (show Blk Wm Y2.heap.size 32 #[.int .i64 0, .int .i64 0] by rw [hWm]; exact KY.out.rowOther HXY.out.symm)
                      rw [← hWm]
                      clear hWm
                      refine hK.out _ _ HSm.out (fun _ => ?_)
                      clear hK K
                      simp only [Act.put]
                      refine wpAnyH_ready (rs := [20]) (by kernel_rfl) (by simp) ?_
                      refine AllReadyH.cons (o := _) rfl (fun K hK => ?_) AllReadyH.nil
                      refine wp_store_pair 32 _ _ rfl Y2.heap.size _ _ rfl rfl 32 _ KYm.out (by kernel_rfl) rfl rfl rfl ?_
                      refine hK.out _ _ (below_setRow HSm.out HY.out _) (fun hl => ?_)
                      clear hK K
                      simp only [Act.put]
                      refine wpAnyH_done (by kernel_rfl) ?_ _
                      go_wp2_with fail
                      go_meet
                      exact ⟨la, lc, Y1.heap.size, Y2.heap.size, rfl, rfl, KXm.out.rowOther HXY.out, KYm.out.row _, own_block HCm.out (fun g hg => setRow_other _ _ _ _ (fun e => blk_ne_row KYm.out HCm.out (by decide) (by subst e; exact hg.symm))), hl⟩
                  · skip
                    go_simp
                    obtain ⟨Y4, hY4⟩ : ∃ V, V = Y1.alloc (.cells #[.int .i64 0, .int .i64 0] 32) := ⟨_, rfl⟩
                    have gx : Grew Y1 Y4 := by rw [hY4]; exact grew_alloc _ _
                    have KY := Lib.hid (show Blk Y4 Y1.heap.size 32 #[.int .i64 0, .int .i64 0] by rw [hY4]; exact Blk.new _ _ _)
                    have HY := Lib.hid HS9.out.size
                    have HSn := Lib.hid (show Grew wr Y4 from HS9.out.trans gx)
                    have HCn := Lib.hid (own_grew HC.out gx)
                    clear HC
                    have HC := HCn
                    clear HCn
                    clear HS9 gx
                    have HS9 := HSn
                    clear HSn
                    rw [← hY4]
                    clear hY4
                    refine hK.out _ _ HS9.out (fun _ => ?_)
                    clear hK K
                    (try simp only [Act.put, List.setIfInBounds_toArray, List.set_cons_zero, List.set_cons_succ])
                    refine wpAnyH_ready (rs := [17]) (by kernel_rfl) (by simp) ?_
                    refine AllReadyH.cons (o := _) rfl (fun K hK => ?_) AllReadyH.nil
                    · skip
                      go_simp
                      obtain ⟨Y5, hY5⟩ : ∃ V, V = Y4.alloc (.cells zMsg 29) := ⟨_, rfl⟩
                      have gx : Grew Y4 Y5 := by rw [hY5]; exact grew_alloc _ _
                      have KX := Lib.hid (show Blk Y5 Y4.heap.size 29 zMsg by rw [hY5]; exact Blk.new _ _ _)
                      have HX := Lib.hid HS9.out.size
                      have HSn := Lib.hid (show Grew wr Y5 from HS9.out.trans gx)
                      have HXY := Lib.hid (show Y4.heap.size ≠ Y1.heap.size by have h := KY.out.lt; omega)
                      have KYn := Lib.hid (KY.out.grew gx)
                      clear KY
                      have KY := KYn
                      clear KYn
                      have HCn := Lib.hid (own_grew HC.out gx)
                      clear HC
                      have HC := HCn
                      clear HCn
                      clear HS9 gx
                      have HS9 := HSn
                      clear HSn
                      simp only [zMsg] at hY5
                      rw [← hY5]
                      clear hY5
                      refine hK.out _ _ HS9.out (fun _ => ?_)
                      clear hK K
                      (try simp only [Act.put, List.setIfInBounds_toArray, List.set_cons_zero, List.set_cons_succ])
                      refine wpAnyH_ready (rs := [19]) (by kernel_rfl) (by simp) ?_
                      refine AllReadyH.cons (o := _) rfl (fun K hK => ?_) AllReadyH.nil
                      refine wp_store_row 29 _ _ rfl Y4.heap.size (msgA C (.slice la C.l.length lc)) rfl rfl 29 _ KX.out (by kernel_rfl) rfl (msgA_one _ _ _ _) ?_
                      obtain ⟨Wm, hWm⟩ : ∃ Wm, Wm = Y5.setRow Y4.heap.size (msgA C (.slice la C.l.length lc)) := ⟨_, rfl⟩
                      have HSm := Lib.hid (show Grew wr Wm by rw [hWm]; exact below_setRow HS9.out HX.out _)
                      have HCm := Lib.hid (show OwnT Wm w8.heap.size (.slice la C.l.length lc) C.l by rw [hWm]; exact own_block HC.out (fun g hg => setRow_other _ _ _ _ (fun e => blk_ne_row KX.out HC.out (by decide) (by subst e; exact hg.symm))))
                      have KXm := Lib.hid (show Blk Wm Y4.heap.size 29 (msgA C (.slice la C.l.length lc)) by rw [hWm]; exact KX.out.row _)
                      have KYm := Lib.hid (show Blk Wm Y1.heap.size 32 #[.int .i64 0, .int .i64 0] by rw [hWm]; exact KY.out.rowOther HXY.out.symm)
                      rw [← hWm]
                      clear hWm
                      refine hK.out _ _ HSm.out (fun _ => ?_)
                      clear hK K
                      simp only [Act.put]
                      refine wpAnyH_ready (rs := [20]) (by kernel_rfl) (by simp) ?_
                      refine AllReadyH.cons (o := _) rfl (fun K hK => ?_) AllReadyH.nil
                      refine wp_store_pair 32 _ _ rfl Y1.heap.size _ _ rfl rfl 32 _ KYm.out (by kernel_rfl) rfl rfl rfl ?_
                      refine hK.out _ _ (below_setRow HSm.out HY.out _) (fun hl => ?_)
                      clear hK K
                      simp only [Act.put]
                      refine wpAnyH_done (by kernel_rfl) ?_ _
                      go_wp2_with fail
                      go_meet
                      exact ⟨la, lc, Y4.heap.size, Y1.heap.size, rfl, rfl, KXm.out.rowOther HXY.out, KYm.out.row _, own_block HCm.out (fun g hg => setRow_other _ _ _ _ (fun e => blk_ne_row KYm.out HCm.out (by decide) (by subst e; exact hg.symm))), hl⟩
                · skip
                  go_simp
                  obtain ⟨Y6, hY6⟩ : ∃ V, V = Z0.alloc (.cells zMsg 29) := ⟨_, rfl⟩
                  have gx : Grew Z0 Y6 := by rw [hY6]; exact grew_alloc _ _
                  have KX := Lib.hid (show Blk Y6 Z0.heap.size 29 zMsg by rw [hY6]; exact Blk.new _ _ _)
                  have HX := Lib.hid HS9.out.size
                  have HSn := Lib.hid (show Grew wr Y6 from HS9.out.trans gx)
                  clear HS9 gx
                  have HS9 := HSn
                  clear HSn
                  simp only [zMsg] at hY6
                  rw [← hY6]
                  clear hY6
                  refine hK.out _ _ HS9.out (fun _ => ?_)
                  clear hK K
                  (try simp only [Act.put, List.setIfInBounds_toArray, List.set_cons_zero, List.set_cons_succ])
                  refine wpAnyH_ready (rs := [13, 18]) (by kernel_rfl) (by simp) ?_
                  refine AllReadyH.cons (o := _) rfl (fun K hK => ?_) (AllReadyH.cons (o := _) rfl (fun K hK => ?_) AllReadyH.nil)
                  · skip
                    go_simp
                    refine (KDX.out Y6 HS9.out).mono ?_
                    rintro e Y7 ⟨lx, rfl, hox, gx⟩
                    obtain ⟨la, lc, rfl⟩ := tx_len (Sl.of_own hox)
                    have HSn := Lib.hid (show Grew wr Y7 from HS9.out.trans gx)
                    have HC := Lib.hid (own_mono (base' := w8.heap.size) hox (Nat.le_trans HW8.out HS9.out.size))
                    have KXn := Lib.hid (KX.out.grew gx)
                    clear KX
                    have KX := KXn
                    clear KXn
                    clear hox gx HS9
                    have HS9 := HSn
                    clear HSn
                    go_simp
                    refine hK.out _ _ HS9.out (fun _ => ?_)
                    clear hK K
                    (try simp only [Act.put, List.setIfInBounds_toArray, List.set_cons_zero, List.set_cons_succ])
                    refine wpAnyH_take (i := 14) (oi := ⟨some 102, _, _, _, _, _⟩) (v := .tuple #[.agg (msgA C (.slice la C.l.length lc)), .agg #[.int .i64 0, .int .i64 0]]) rfl (by kernel_rfl) (by kernel_rfl) (by kernel_rfl) (fun _ _ _ h => h) (Or.inl ⟨by rfl, ?_⟩) HS9.out ?_
                    · intro V hV
                      go_simp
                      try rfl
                    (try simp only [Act.put, List.setIfInBounds_toArray, List.set_cons_zero, List.set_cons_succ])
                    refine wpAnyH_take (i := 15) (oi := ⟨some 117, _, _, _, _, _⟩) (v := .agg (msgA C (.slice la C.l.length lc))) rfl (by kernel_rfl) (by kernel_rfl) (by kernel_rfl) (fun _ _ _ h => h) (Or.inl ⟨by rfl, ?_⟩) HS9.out ?_
                    · intro V hV
                      go_simp
                      try rfl
                    (try simp only [Act.put, List.setIfInBounds_toArray, List.set_cons_zero, List.set_cons_succ])
                    refine wpAnyH_take (i := 16) (oi := ⟨some 118, _, _, _, _, _⟩) (v := .agg #[.int .i64 0, .int .i64 0]) rfl (by kernel_rfl) (by kernel_rfl) (by kernel_rfl) (fun _ _ _ h => h) (Or.inl ⟨by rfl, ?_⟩) HS9.out ?_
                    · intro V hV
                      go_simp
                      try rfl
                    (try simp only [Act.put, List.setIfInBounds_toArray, List.set_cons_zero, List.set_cons_succ])
                    refine wpAnyH_ready (rs := [18]) (by kernel_rfl) (by simp) ?_
                    refine AllReadyH.cons (o := _) rfl (fun K hK => ?_) AllReadyH.nil
                    · skip
                      go_simp
                      obtain ⟨Y8, hY8⟩ : ∃ V, V = Y7.alloc (.cells #[.int .i64 0, .int .i64 0] 32) := ⟨_, rfl⟩
                      have gx : Grew Y7 Y8 := by rw [hY8]; exact grew_alloc _ _
                      have KY := Lib.hid (show Blk Y8 Y7.heap.size 32 #[.int .i64 0, .int .i64 0] by rw [hY8]; exact Blk.new _ _ _)
                      have HY := Lib.hid HS9.out.size
                      have HSn := Lib.hid (show Grew wr Y8 from HS9.out.trans gx)
                      have HXY := Lib.hid (show Z0.heap.size ≠ Y7.heap.size by have h := KX.out.lt; omega)
                      have KXn := Lib.hid (KX.out.grew gx)
                      clear KX
                      have KX := KXn
                      clear KXn
                      have HCn := Lib.hid (own_grew HC.out gx)
                      clear HC
                      have HC := HCn
                      clear HCn
                      clear HS9 gx
                      have HS9 := HSn
                      clear HSn
                      rw [← hY8]
                      clear hY8
                      refine hK.out _ _ HS9.out (fun _ => ?_)
                      clear hK K
                      (try simp only [Act.put, List.setIfInBounds_toArray, List.set_cons_zero, List.set_cons_succ])
                      refine wpAnyH_ready (rs := [19]) (by kernel_rfl) (by simp) ?_
                      refine AllReadyH.cons (o := _) rfl (fun K hK => ?_) AllReadyH.nil
                      refine wp_store_row 29 _ _ rfl Z0.heap.size (msgA C (.slice la C.l.length lc)) rfl rfl 29 _ KX.out (by kernel_rfl) rfl (msgA_one _ _ _ _) ?_
                      obtain ⟨Wm, hWm⟩ : ∃ Wm, Wm = Y8.setRow Z0.heap.size (msgA C (.slice la C.l.length lc)) := ⟨_, rfl⟩
                      have HSm := Lib.hid (show Grew wr Wm by rw [hWm]; exact below_setRow HS9.out HX.out _)
                      have HCm := Lib.hid (show OwnT Wm w8.heap.size (.slice la C.l.length lc) C.l by rw [hWm]; exact own_block HC.out (fun g hg => setRow_other _ _ _ _ (fun e => blk_ne_row KX.out HC.out (by decide) (by subst e; exact hg.symm))))
                      have KXm := Lib.hid (show Blk Wm Z0.heap.size 29 (msgA C (.slice la C.l.length lc)) by rw [hWm]; exact KX.out.row _)
                      have KYm := Lib.hid (show Blk Wm Y7.heap.size 32 #[.int .i64 0, .int .i64 0] by rw [hWm]; exact KY.out.rowOther HXY.out.symm)
                      rw [← hWm]
                      clear hWm
                      refine hK.out _ _ HSm.out (fun _ => ?_)
                      clear hK K
                      simp only [Act.put]
                      refine wpAnyH_ready (rs := [20]) (by kernel_rfl) (by simp) ?_
                      refine AllReadyH.cons (o := _) rfl (fun K hK => ?_) AllReadyH.nil
                      refine wp_store_pair 32 _ _ rfl Y7.heap.size _ _ rfl rfl 32 _ KYm.out (by kernel_rfl) rfl rfl rfl ?_
                      refine hK.out _ _ (below_setRow HSm.out HY.out _) (fun hl => ?_)
                      clear hK K
                      simp only [Act.put]
                      refine wpAnyH_done (by kernel_rfl) ?_ _
                      go_wp2_with fail
                      go_meet
                      exact ⟨la, lc, Z0.heap.size, Y7.heap.size, rfl, rfl, KXm.out.rowOther HXY.out, KYm.out.row _, own_block HCm.out (fun g hg => setRow_other _ _ _ _ (fun e => blk_ne_row KYm.out HCm.out (by decide) (by subst e; exact hg.symm))), hl⟩
                  · skip
                    go_simp
                    obtain ⟨Y9, hY9⟩ : ∃ V, V = Y6.alloc (.cells #[.int .i64 0, .int .i64 0] 32) := ⟨_, rfl⟩
                    have gx : Grew Y6 Y9 := by rw [hY9]; exact grew_alloc _ _
                    have KY := Lib.hid (show Blk Y9 Y6.heap.size 32 #[.int .i64 0, .int .i64 0] by rw [hY9]; exact Blk.new _ _ _)
                    have HY := Lib.hid HS9.out.size
                    have HSn := Lib.hid (show Grew wr Y9 from HS9.out.trans gx)
                    have HXY := Lib.hid (show Z0.heap.size ≠ Y6.heap.size by have h := KX.out.lt; omega)
                    have KXn := Lib.hid (KX.out.grew gx)
                    clear KX
                    have KX := KXn
                    clear KXn
                    clear HS9 gx
                    have HS9 := HSn
                    clear HSn
                    rw [← hY9]
                    clear hY9
                    refine hK.out _ _ HS9.out (fun _ => ?_)
                    clear hK K
                    (try simp only [Act.put, List.setIfInBounds_toArray, List.set_cons_zero, List.set_cons_succ])
                    refine wpAnyH_ready (rs := [13]) (by kernel_rfl) (by simp) ?_
                    refine AllReadyH.cons (o := _) rfl (fun K hK => ?_) AllReadyH.nil
                    · skip
                      go_simp
                      refine (KDX.out Y9 HS9.out).mono ?_
                      rintro e Y10 ⟨lx, rfl, hox, gx⟩
                      obtain ⟨la, lc, rfl⟩ := tx_len (Sl.of_own hox)
                      have HSn := Lib.hid (show Grew wr Y10 from HS9.out.trans gx)
                      have HC := Lib.hid (own_mono (base' := w8.heap.size) hox (Nat.le_trans HW8.out HS9.out.size))
                      have KXn := Lib.hid (KX.out.grew gx)
                      clear KX
                      have KX := KXn
                      clear KXn
                      have KYn := Lib.hid (KY.out.grew gx)
                      clear KY
                      have KY := KYn
                      clear KYn
                      clear hox gx HS9
                      have HS9 := HSn
                      clear HSn
                      go_simp
                      refine hK.out _ _ HS9.out (fun _ => ?_)
                      clear hK K
                      (try simp only [Act.put, List.setIfInBounds_toArray, List.set_cons_zero, List.set_cons_succ])
                      refine wpAnyH_take (i := 14) (oi := ⟨some 102, _, _, _, _, _⟩) (v := .tuple #[.agg (msgA C (.slice la C.l.length lc)), .agg #[.int .i64 0, .int .i64 0]]) rfl (by kernel_rfl) (by kernel_rfl) (by kernel_rfl) (fun _ _ _ h => h) (Or.inl ⟨by rfl, ?_⟩) HS9.out ?_
                      · intro V hV
                        go_simp
                        try rfl
                      (try simp only [Act.put, List.setIfInBounds_toArray, List.set_cons_zero, List.set_cons_succ])
                      refine wpAnyH_take (i := 15) (oi := ⟨some 117, _, _, _, _, _⟩) (v := .agg (msgA C (.slice la C.l.length lc))) rfl (by kernel_rfl) (by kernel_rfl) (by kernel_rfl) (fun _ _ _ h => h) (Or.inl ⟨by rfl, ?_⟩) HS9.out ?_
                      · intro V hV
                        go_simp
                        try rfl
                      (try simp only [Act.put, List.setIfInBounds_toArray, List.set_cons_zero, List.set_cons_succ])
                      refine wpAnyH_take (i := 16) (oi := ⟨some 118, _, _, _, _, _⟩) (v := .agg #[.int .i64 0, .int .i64 0]) rfl (by kernel_rfl) (by kernel_rfl) (by kernel_rfl) (fun _ _ _ h => h) (Or.inl ⟨by rfl, ?_⟩) HS9.out ?_
                      · intro V hV
                        go_simp
                        try rfl
                      (try simp only [Act.put, List.setIfInBounds_toArray, List.set_cons_zero, List.set_cons_succ])
                      refine wpAnyH_ready (rs := [19]) (by kernel_rfl) (by simp) ?_
                      refine AllReadyH.cons (o := _) rfl (fun K hK => ?_) AllReadyH.nil
                      refine wp_store_row 29 _ _ rfl Z0.heap.size (msgA C (.slice la C.l.length lc)) rfl rfl 29 _ KX.out (by kernel_rfl) rfl (msgA_one _ _ _ _) ?_
                      obtain ⟨Wm, hWm⟩ : ∃ Wm, Wm = Y10.setRow Z0.heap.size (msgA C (.slice la C.l.length lc)) := ⟨_, rfl⟩
                      have HSm := Lib.hid (show Grew wr Wm by rw [hWm]; exact below_setRow HS9.out HX.out _)
                      have HCm := Lib.hid (show OwnT Wm w8.heap.size (.slice la C.l.length lc) C.l by rw [hWm]; exact own_block HC.out (fun g hg => setRow_other _ _ _ _ (fun e => blk_ne_row KX.out HC.out (by decide) (by subst e; exact hg.symm))))
                      have KXm := Lib.hid (show Blk Wm Z0.heap.size 29 (msgA C (.slice la C.l.length lc)) by rw [hWm]; exact KX.out.row _)
                      have KYm := Lib.hid (show Blk Wm Y6.heap.size 32 #[.int .i64 0, .int .i64 0] by rw [hWm]; exact KY.out.rowOther HXY.out.symm)
                      rw [← hWm]
                      clear hWm
                      refine hK.out _ _ HSm.out (fun _ => ?_)
                      clear hK K
                      simp only [Act.put]
                      refine wpAnyH_ready (rs := [20]) (by kernel_rfl) (by simp) ?_
                      refine AllReadyH.cons (o := _) rfl (fun K hK => ?_) AllReadyH.nil
                      refine wp_store_pair 32 _ _ rfl Y6.heap.size _ _ rfl rfl 32 _ KYm.out (by kernel_rfl) rfl rfl rfl ?_
                      refine hK.out _ _ (below_setRow HSm.out HY.out _) (fun hl => ?_)
                      clear hK K
                      simp only [Act.put]
                      refine wpAnyH_done (by kernel_rfl) ?_ _
                      go_wp2_with fail
                      go_meet
                      exact ⟨la, lc, Z0.heap.size, Y6.heap.size, rfl, rfl, KXm.out.rowOther HXY.out, KYm.out.row _, own_block HCm.out (fun g hg => setRow_other _ _ _ _ (fun e => blk_ne_row KYm.out HCm.out (by decide) (by subst e; exact hg.symm))), hl⟩
                · skip
                  go_simp
                  obtain ⟨Y11, hY11⟩ : ∃ V, V = Z0.alloc (.cells #[.int .i64 0, .int .i64 0] 32) := ⟨_, rfl⟩
                  have gx : Grew Z0 Y11 := by rw [hY11]; exact grew_alloc _ _
                  have KY := Lib.hid (show Blk Y11 Z0.heap.size 32 #[.int .i64 0, .int .i64 0] by rw [hY11]; exact Blk.new _ _ _)
                  have HY := Lib.hid HS9.out.size
                  have HSn := Lib.hid (show Grew wr Y11 from HS9.out.trans gx)
                  clear HS9 gx
                  have HS9 := HSn
                  clear HSn
                  rw [← hY11]
                  clear hY11
                  refine hK.out _ _ HS9.out (fun _ => ?_)
                  clear hK K
                  (try simp only [Act.put, List.setIfInBounds_toArray, List.set_cons_zero, List.set_cons_succ])
                  refine wpAnyH_ready (rs := [13, 17]) (by kernel_rfl) (by simp) ?_
                  refine AllReadyH.cons (o := _) rfl (fun K hK => ?_) (AllReadyH.cons (o := _) rfl (fun K hK => ?_) AllReadyH.nil)
                  · skip
                    go_simp
                    refine (KDX.out Y11 HS9.out).mono ?_
                    rintro e Y12 ⟨lx, rfl, hox, gx⟩
                    obtain ⟨la, lc, rfl⟩ := tx_len (Sl.of_own hox)
                    have HSn := Lib.hid (show Grew wr Y12 from HS9.out.trans gx)
                    have HC := Lib.hid (own_mono (base' := w8.heap.size) hox (Nat.le_trans HW8.out HS9.out.size))
                    have KYn := Lib.hid (KY.out.grew gx)
                    clear KY
                    have KY := KYn
                    clear KYn
                    clear hox gx HS9
                    have HS9 := HSn
                    clear HSn
                    go_simp
                    refine hK.out _ _ HS9.out (fun _ => ?_)
                    clear hK K
                    (try simp only [Act.put, List.setIfInBounds_toArray, List.set_cons_zero, List.set_cons_succ])
                    refine wpAnyH_take (i := 14) (oi := ⟨some 102, _, _, _, _, _⟩) (v := .tuple #[.agg (msgA C (.slice la C.l.length lc)), .agg #[.int .i64 0, .int .i64 0]]) rfl (by kernel_rfl) (by kernel_rfl) (by kernel_rfl) (fun _ _ _ h => h) (Or.inl ⟨by rfl, ?_⟩) HS9.out ?_
                    · intro V hV
                      go_simp
                      try rfl
                    (try simp only [Act.put, List.setIfInBounds_toArray, List.set_cons_zero, List.set_cons_succ])
                    refine wpAnyH_take (i := 15) (oi := ⟨some 117, _, _, _, _, _⟩) (v := .agg (msgA C (.slice la C.l.length lc))) rfl (by kernel_rfl) (by kernel_rfl) (by kernel_rfl) (fun _ _ _ h => h) (Or.inl ⟨by rfl, ?_⟩) HS9.out ?_
                    · intro V hV
                      go_simp
                      try rfl
                    (try simp only [Act.put, List.setIfInBounds_toArray, List.set_cons_zero, List.set_cons_succ])
                    refine wpAnyH_take (i := 16) (oi := ⟨some 118, _, _, _, _, _⟩) (v := .agg #[.int .i64 0, .int .i64 0]) rfl (by kernel_rfl) (by kernel_rfl) (by kernel_rfl) (fun _ _ _ h => h) (Or.inl ⟨by rfl, ?_⟩) HS9.out ?_
                    · intro V hV
                      go_simp
                      try rfl
                    (try simp only [Act.put, List.setIfInBounds_toArray, List.set_cons_zero, List.set_cons_succ])
                    refine wpAnyH_ready (rs := [17]) (by kernel_rfl) (by simp) ?_
                    refine AllReadyH.cons (o := _) rfl (fun K hK => ?_) AllReadyH.nil
                    · skip
                      go_simp
                      obtain ⟨Y13, hY13⟩ : ∃ V, V = Y12.alloc (.cells zMsg 29) := ⟨_, rfl⟩
                      have gx : Grew Y12 Y13 := by rw [hY13]; exact grew_alloc _ _
                      have KX := Lib.hid (show Blk Y13 Y12.heap.size 29 zMsg by rw [hY13]; exact Blk.new _ _ _)
                      have HX := Lib.hid HS9.out.size
                      have HSn := Lib.hid (show Grew wr Y13 from HS9.out.trans gx)
                      have HXY := Lib.hid (show Y12.heap.size ≠ Z0.heap.size by have h := KY.out.lt; omega)
                      have KYn := Lib.hid (KY.out.grew gx)
                      clear KY
                      have KY := KYn
                      clear KYn
                      have HCn := Lib.hid (own_grew HC.out gx)
                      clear HC
                      have HC := HCn
                      clear HCn
                      clear HS9 gx
                      have HS9 := HSn
                      clear HSn
                      simp only [zMsg] at hY13
                      rw [← hY13]
                      clear hY13
                      refine hK.out _ _ HS9.out (fun _ => ?_)
                      clear hK K
                      (try simp only [Act.put, List.setIfInBounds_toArray, List.set_cons_zero, List.set_cons_succ])
                      refine wpAnyH_ready (rs := [19]) (by kernel_rfl) (by simp) ?_
                      refine AllReadyH.cons (o := _) rfl (fun K hK => ?_) AllReadyH.nil
                      refine wp_store_row 29 _ _ rfl Y12.heap.size (msgA C (.slice la C.l.length lc)) rfl rfl 29 _ KX.out (by kernel_rfl) rfl (msgA_one _ _ _ _) ?_
                      obtain ⟨Wm, hWm⟩ : ∃ Wm, Wm = Y13.setRow Y12.heap.size (msgA C (.slice la C.l.length lc)) := ⟨_, rfl⟩
                      have HSm := Lib.hid (show Grew wr Wm by rw [hWm]; exact below_setRow HS9.out HX.out _)
                      have HCm := Lib.hid (show OwnT Wm w8.heap.size (.slice la C.l.length lc) C.l by rw [hWm]; exact own_block HC.out (fun g hg => setRow_other _ _ _ _ (fun e => blk_ne_row KX.out HC.out (by decide) (by subst e; exact hg.symm))))
                      have KXm := Lib.hid (show Blk Wm Y12.heap.size 29 (msgA C (.slice la C.l.length lc)) by rw [hWm]; exact KX.out.row _)
                      have KYm := Lib.hid (show Blk Wm Z0.heap.size 32 #[.int .i64 0, .int .i64 0] by rw [hWm]; exact KY.out.rowOther HXY.out.symm)
                      rw [← hWm]
                      clear hWm
                      refine hK.out _ _ HSm.out (fun _ => ?_)
                      clear hK K
                      simp only [Act.put]
                      refine wpAnyH_ready (rs := [20]) (by kernel_rfl) (by simp) ?_
                      refine AllReadyH.cons (o := _) rfl (fun K hK => ?_) AllReadyH.nil
                      refine wp_store_pair 32 _ _ rfl Z0.heap.size _ _ rfl rfl 32 _ KYm.out (by kernel_rfl) rfl rfl rfl ?_
                      refine hK.out _ _ (below_setRow HSm.out HY.out _) (fun hl => ?_)
                      clear hK K
                      simp only [Act.put]
                      refine wpAnyH_done (by kernel_rfl) ?_ _
                      go_wp2_with fail
                      go_meet
                      exact ⟨la, lc, Y12.heap.size, Z0.heap.size, rfl, rfl, KXm.out.rowOther HXY.out, KYm.out.row _, own_block HCm.out (fun g hg => setRow_other _ _ _ _ (fun e => blk_ne_row KYm.out HCm.out (by decide) (by subst e; exact hg.symm))), hl⟩
                  · skip
                    go_simp
                    obtain ⟨Y14, hY14⟩ : ∃ V, V = Y11.alloc (.cells zMsg 29) := ⟨_, rfl⟩
                    have gx : Grew Y11 Y14 := by rw [hY14]; exact grew_alloc _ _
                    have KX := Lib.hid (show Blk Y14 Y11.heap.size 29 zMsg by rw [hY14]; exact Blk.new _ _ _)
                    have HX := Lib.hid HS9.out.size
                    have HSn := Lib.hid (show Grew wr Y14 from HS9.out.trans gx)
                    have HXY := Lib.hid (show Y11.heap.size ≠ Z0.heap.size by have h := KY.out.lt; omega)
                    have KYn := Lib.hid (KY.out.grew gx)
                    clear KY
                    have KY := KYn
                    clear KYn
                    clear HS9 gx
                    have HS9 := HSn
                    clear HSn
                    simp only [zMsg] at hY14
                    rw [← hY14]
                    clear hY14
                    refine hK.out _ _ HS9.out (fun _ => ?_)
                    clear hK K
                    (try simp only [Act.put, List.setIfInBounds_toArray, List.set_cons_zero, List.set_cons_succ])
                    refine wpAnyH_ready (rs := [13]) (by kernel_rfl) (by simp) ?_
                    refine AllReadyH.cons (o := _) rfl (fun K hK => ?_) AllReadyH.nil
                    · skip
                      go_simp
                      refine (KDX.out Y14 HS9.out).mono ?_
                      rintro e Y15 ⟨lx, rfl, hox, gx⟩
                      obtain ⟨la, lc, rfl⟩ := tx_len (Sl.of_own hox)
                      have HSn := Lib.hid (show Grew wr Y15 from HS9.out.trans gx)
                      have HC := Lib.hid (own_mono (base' := w8.heap.size) hox (Nat.le_trans HW8.out HS9.out.size))
                      have KXn := Lib.hid (KX.out.grew gx)
                      clear KX
                      have KX := KXn
                      clear KXn
                      have KYn := Lib.hid (KY.out.grew gx)
                      clear KY
                      have KY := KYn
                      clear KYn
                      clear hox gx HS9
                      have HS9 := HSn
                      clear HSn
                      go_simp
                      refine hK.out _ _ HS9.out (fun _ => ?_)
                      clear hK K
                      (try simp only [Act.put, List.setIfInBounds_toArray, List.set_cons_zero, List.set_cons_succ])
                      refine wpAnyH_take (i := 14) (oi := ⟨some 102, _, _, _, _, _⟩) (v := .tuple #[.agg (msgA C (.slice la C.l.length lc)), .agg #[.int .i64 0, .int .i64 0]]) rfl (by kernel_rfl) (by kernel_rfl) (by kernel_rfl) (fun _ _ _ h => h) (Or.inl ⟨by rfl, ?_⟩) HS9.out ?_
                      · intro V hV
                        go_simp
                        try rfl
                      (try simp only [Act.put, List.setIfInBounds_toArray, List.set_cons_zero, List.set_cons_succ])
                      refine wpAnyH_take (i := 15) (oi := ⟨some 117, _, _, _, _, _⟩) (v := .agg (msgA C (.slice la C.l.length lc))) rfl (by kernel_rfl) (by kernel_rfl) (by kernel_rfl) (fun _ _ _ h => h) (Or.inl ⟨by rfl, ?_⟩) HS9.out ?_
                      · intro V hV
                        go_simp
                        try rfl
                      (try simp only [Act.put, List.setIfInBounds_toArray, List.set_cons_zero, List.set_cons_succ])
                      refine wpAnyH_take (i := 16) (oi := ⟨some 118, _, _, _, _, _⟩) (v := .agg #[.int .i64 0, .int .i64 0]) rfl (by kernel_rfl) (by kernel_rfl) (by kernel_rfl) (fun _ _ _ h => h) (Or.inl ⟨by rfl, ?_⟩) HS9.out ?_
                      · intro V hV
                        go_simp
                        try rfl
                      (try simp only [Act.put, List.setIfInBounds_toArray, List.set_cons_zero, List.set_cons_succ])
                      refine wpAnyH_ready (rs := [19]) (by kernel_rfl) (by simp) ?_
                      refine AllReadyH.cons (o := _) rfl (fun K hK => ?_) AllReadyH.nil
                      refine wp_store_row 29 _ _ rfl Y11.heap.size (msgA C (.slice la C.l.length lc)) rfl rfl 29 _ KX.out (by kernel_rfl) rfl (msgA_one _ _ _ _) ?_
                      obtain ⟨Wm, hWm⟩ : ∃ Wm, Wm = Y15.setRow Y11.heap.size (msgA C (.slice la C.l.length lc)) := ⟨_, rfl⟩
                      have HSm := Lib.hid (show Grew wr Wm by rw [hWm]; exact below_setRow HS9.out HX.out _)
                      have HCm := Lib.hid (show OwnT Wm w8.heap.size (.slice la C.l.length lc) C.l by rw [hWm]; exact own_block HC.out (fun g hg => setRow_other _ _ _ _ (fun e => blk_ne_row KX.out HC.out (by decide) (by subst e; exact hg.symm))))
                      have KXm := Lib.hid (show Blk Wm Y11.heap.size 29 (msgA C (.slice la C.l.length lc)) by rw [hWm]; exact KX.out.row _)
                      have KYm := Lib.hid (show Blk Wm Z0.heap.size 32 #[.int .i64 0, .int .i64 0] by rw [hWm]; exact KY.out.rowOther HXY.out.symm)
                      rw [← hWm]
                      clear hWm
                      refine hK.out _ _ HSm.out (fun _ => ?_)
                      clear hK K
                      simp only [Act.put]
                      refine wpAnyH_ready (rs := [20]) (by kernel_rfl) (by simp) ?_
                      refine AllReadyH.cons (o := _) rfl (fun K hK => ?_) AllReadyH.nil
                      refine wp_store_pair 32 _ _ rfl Z0.heap.size _ _ rfl rfl 32 _ KYm.out (by kernel_rfl) rfl rfl rfl ?_
                      refine hK.out _ _ (below_setRow HSm.out HY.out _) (fun hl => ?_)
                      clear hK K
                      simp only [Act.put]
                      refine wpAnyH_done (by kernel_rfl) ?_ _
                      go_wp2_with fail
                      go_meet
                      exact ⟨la, lc, Y11.heap.size, Z0.heap.size, rfl, rfl, KXm.out.rowOther HXY.out, KYm.out.row _, own_block HCm.out (fun g hg => setRow_other _ _ _ _ (fun e => blk_ne_row KYm.out HCm.out (by decide) (by subst e; exact hg.symm))), hl⟩
              case rest =>
                obtain ⟨la, lc, b1, b2, rfl, rfl, kb1, kb2, ho, hg⟩ := hcut
                generalize wc = w9 at kb1 kb2 ho hg ⊢
                have hJ9 := HJ.out.grew hg
                obtain ⟨ag, ng, cg, rfl, hng, -⟩ := hJ9.row.msr.open
                subst hng
                obtain ⟨c0, c1, c2, c3, c4, c5, c6, c7, c8, c9⟩ := mcells kb1
                obtain ⟨y0, y1, -, -⟩ := cells_of kb2
                have gA := grew_alloc w9 (.cells (msgA C (.slice la C.l.length lc)) 29)
                have J9 := Lib.hid (hJ9.grew gA)
                have OC := Lib.hid (own_grew ho gA)
                have hgl : G2.length = told + j := by
                  have h1 := congrArg List.length hJ9.is
                  rw [List.length_map, List.length_map, List.length_take] at h1
                  have := HKS.out; omega
                have hgl2 : G2.length + 1 ≤ 1000000000 := by have := HKS.out; omega
                have HGL2 := Lib.hid hgl2
                have SZ := Lib.hid (show w8.heap.size ≤ (w9.alloc (.cells (msgA C (.slice la C.l.length lc)) 29)).heap.size by have := HW8.out; have := hg.size; have := gA.size; omega)
                clear kb1 kb2 ho hg hJ9 gA hgl hgl2
                go_wp2_with (at_builtin; refine wpList_pushM rfl _ _ rfl w8.heap.size (.slice ag G2.length cg) G2 rfl J9.out.row.1 _ rfl (C, .slice la C.l.length lc) (Sl.lit w9 29 (0, 0) (msgA C (.slice la C.l.length lc)) 1 10 rfl (by unfold maxLen; omega)) ⟨_, _, _, rfl⟩ HGL2.out SZ.out ?_; intro v6 w6' h6 hB6 hg6)
                have hcc := HCC.out
                subst hcc
                have J10 := Lib.hid (J9.out.push HKS.out OC.out h6 hg6)
                refine ⟨⟨j + 1, _, by omega, by go_num, J10.out⟩, ?_⟩
                simp [intOf]; omega
            · have z6 : ¬ (j : Int) < (qs.length : Int) := by omega
              have hol : qs.length = out.length := by rw [← HQS.out, List.length_map]
              have htj : told + j = told' := by have := HLO.out; have := HT1.out; omega
              have hI2 := Lib.hid (show MlI ver pf w8 pf S ((ps.take (i + 1)).map (·.2)).flatten u15 wr G2 K' N' told' F' from
                ⟨hJ.fd, hJ.new, by rw [E8.out]; exact HI1.out, hJ.fr, hJ.row, by rw [hJ.is, htj], by have := HT2.out; have := HFLE.out; omega⟩)
              clear hJ hol htj
              go_wp2
              go_roundw
              case rel => exact ⟨i + 1, told', G2, K', N', F', by omega, by go_num, hI2.out⟩
              case measure => simp [intOf]; omega
        · have z6 : ¬ (i : Int) < (ps.length : Int) := by omega
          have hB : ((ps.take i).map (·.2)).flatten = fjoin fs := by rw [List.take_of_length_le (by omega)]; exact PJ.out
          obtain ⟨ht, hK⟩ := mail_end HF8.out hI.inv hB
          subst hK
          have hst : told = S.length := by rw [ht]; exact HFLE.out
          obtain ⟨ag, ng, cg, rfl, hng, -⟩ := hI.row.msr.open
          subst hng
          have hgi := hI.is
          rw [List.take_of_length_le (by omega)] at hgi
          have hgl : G.length = S.length := by have := congrArg List.length hgi; rwa [List.length_map, List.length_map] at this
          have KH := Lib.hid (fheld_any pf Fs pf [] n false wr hI.fd)
          have GWr := Lib.hid (hI.fr.grew G8.out (fun i e => by have := HPFB.out; have := G1.out.size; omega))
          obtain ⟨k0, k1, k2, kb8⟩ := KP8.out
          have rs9 := own_fr RS8.out hI.fr (fun g hg e => blk_ne_row kb8 RS8.out (by decide) (by rw [← e]; exact hg.symm))
          have RM := Lib.hid (show MsR wr (.slice aS S.length cS) S from ⟨Sl.of_own rs9, fun x hx => (HSOK.out x hx).2.2.grew GWr.out⟩)
          have RG := Lib.hid hI.row.msr
          have HGI := Lib.hid hgi
          have HGL := Lib.hid hgl
          have qg : ((G.length : Int) != (S.length : Int)) = false := by rw [hgl]; simp
          clear hI hB ht hst hgi hgl rs9 kb8
          go_wp2_with fail
          refine KH.out.mono ?_
          rintro e w9 ⟨rfl, rfl⟩
          go_wp2_with fail
          go_loopw [22] (fun ix wq => ∃ j : Nat, j ≤ S.length ∧ ix = .int .i64 j ∧ Grew wr wq) (fun ix _ => S.length - (intOf ix).toNat)
          case atStart => exact ⟨0, Nat.zero_le _, rfl, Below.refl _ _⟩
          case round =>
            obtain ⟨j, hj, rfl, hG3⟩ := hrel
            by_cases hlt3 : j < S.length
            · have hgj : j < G.length := by rw [HGL.out]; exact hlt3
              obtain ⟨bg, og, eg, hc1⟩ := (RG.out.grew hG3).cells (by omega)
              obtain ⟨bs, os, es, hc2⟩ := (RM.out.grew hG3).cells (by omega)
              cases eg
              cases es
              obtain ⟨xa, xt⟩ := hc1 j hgj
              obtain ⟨ya, yt⟩ := hc2 j hlt3
              have hgs : G[j].1 = clF ver S[j] := by
                have h1 : (G.map (·.1))[j]? = some G[j].1 := by rw [List.getElem?_map, List.getElem?_eq_getElem hgj]; rfl
                rw [HGI.out, List.getElem?_map, List.getElem?_eq_getElem hlt3] at h1
                exact (Option.some.inj h1).symm
              obtain ⟨ho1, ho2, -⟩ := HSOK.out _ (List.getElem_mem hlt3)
              obtain ⟨-, -, -, hsame⟩ := mfrm_dec ho1 ho2
              have hsame : sameB G[j].1 S[j].1 = true := by rw [hgs]; exact hsame
              generalize G[j] = gx at xa xt hsame
              generalize S[j] = sx at ya yt hsame
              obtain ⟨gm, gv⟩ := gx
              obtain ⟨sm, sv⟩ := sx
              simp only at xt yt hsame
              obtain ⟨ga, gc, rfl⟩ := tx_len xt
              obtain ⟨sa', sc', rfl⟩ := tx_len yt
              have ks : ∀ W', Grew wr W' → _ := fun W' g => vsame_any gm sm _ _ W' (xt.grew g) (yt.grew g)
              rw [hsame] at ks
              have KS := Lib.hid ks
              obtain ⟨c0, c1, c2, c3, c4, c5, c6, c7, c8, c9⟩ := xa
              obtain ⟨d0, d1, d2, d3, d4, d5, d6, d7, d8, d9⟩ := ya
              simp only [msgA] at KS
              simp only at c0 c1 c2 c3 c4 c5 c6 c7 c8 c9 d0 d1 d2 d3 d4 d5 d6 d7 d8 d9
              have z0 : (0 : Int) ≤ (j : Int) := by omega
              have z1 : (j : Int) < (S.length : Int) := by omega
              have z2 : (j : Int) < (G.length : Int) := by omega
              clear hc1 hc2 xt yt hgs ho1 ho2 hsame ks
              go_wp2_with fail
              go_region_with (go_at_call 19; refine (KS.out _ (Drew.grew ⟨1, rfl⟩)).mono ?_; rintro y w10 ⟨rfl, g10⟩)
              all_goals go_wp2
              all_goals go_roundw
              all_goals first
                | exact ⟨j + 1, by omega, by go_num, (hG3.trans (Drew.grew ⟨1, rfl⟩ : Grew wr wr.drew)).trans g10⟩
                | (simp [intOf]; omega)
            · have z1 : ¬ (j : Int) < (S.length : Int) := by omega
              go_wp2
              go_ret
              exact ⟨rfl, GWr.out.trans hG3⟩
end Go.Proofs.YtbjoohafgkodcaaGreat
