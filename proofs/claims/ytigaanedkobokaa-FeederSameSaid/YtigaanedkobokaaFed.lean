/- The law FeederSame returns true: its walk. -/
import Derived.Test.YtigaanedkobokaaFec
namespace Go.Proofs.Ytigaanedkobokaa
open Go Go.RowKit Go.Shelf

theorem u8_int (x : UInt8) : (0 : Int) ≤ (x.toNat : Int) ∧ (x.toNat : Int) ≤ 255 := by have := UInt8.toNat_lt x; omega
set_option maxRecDepth 100000 in
set_option maxHeartbeats 8000000 in
theorem fsame_walk (l C : List UInt8) (v vc : Value) (w : World) (hb : Bs w v l) (hc : Bs w vc C) :
    Calls Try.prog 10 #[v, vc] w fun e w' => e = .returned (.bool true) ∧ Grew w w' := by
  obtain ⟨a, c, rfl, h1, h2, -, hcc⟩ := hb.open
  obtain ⟨ca, cc, rfl, q1, q2, -, qcc⟩ := hc.open
  unfold maxLen at h2 q2
  by_cases hg : ¬ (l.length ≤ 3000 ∧ C.length ≤ 100)
  · have y1 : decide ((l.length : Int) > 3000) = true ∨ (decide ((l.length : Int) > 3000) = false ∧ decide ((C.length : Int) > 100) = true) := by
      simp only [decide_eq_true_eq, decide_eq_false_iff_not]; omega
    clear hb hcc hc qcc
    go_enter Try.func10, Try.ntmps10
    go_wp2_with fail
    refine (live15_any _).mono ?_
    rintro e w1 ⟨rfl, g1⟩
    clear hg
    rcases y1 with y | ⟨y, y2⟩
    all_goals go_wp2
    all_goals go_ret
    all_goals exact ⟨rfl, g1⟩
  obtain ⟨hl, hcl⟩ := Decidable.not_not.1 hg
  have HB := Lib.hid hb
  have HC := Lib.hid hc
  have QCC := Lib.hid qcc
  have y1 : decide ((l.length : Int) > 3000) = false := by simp; omega
  have y1b : decide (3000 < (l.length : Int)) = false := by simp; omega
  have y1c : decide (3000 < l.length) = false := by simp; omega
  have y2 : decide ((C.length : Int) > 100) = false := by simp; omega
  have y2b : decide (100 < (C.length : Int)) = false := by simp; omega
  have y2c : decide (100 < C.length) = false := by simp; omega
  clear hb hcc hg hc qcc
  go_enter Try.func10, Try.ntmps10
  go_wp2_with fail
  refine (live15_any _).mono ?_
  rintro e w1 ⟨rfl, g1⟩
  have B1 := Lib.hid (HB.out.grew g1)
  go_wp2_with fail
  refine (fnew_any _).mono ?_
  rintro e w2 ⟨rfl, d2, g2⟩
  have hs12 : w1.heap.size < w2.heap.size := by obtain ⟨v, h1, _⟩ := d2; exact h1.lt
  obtain ⟨pf, hpf⟩ : ∃ pf, pf = w1.heap.size := ⟨_, rfl⟩
  have D2 : RowKit.Hid (FdS 77 w1.heap.size (· = pf) w2 pf [] 0 false) := by rw [hpf]; exact Lib.hid d2
  clear d2
  go_wp2_with fail
  refine (fnew_any _).mono ?_
  rintro e w3 ⟨rfl, d3, g3⟩
  have hs23 : w2.heap.size < w3.heap.size := by obtain ⟨v, h1, _⟩ := d3; exact h1.lt
  obtain ⟨pq, hpq⟩ : ∃ pq, pq = w2.heap.size := ⟨_, rfl⟩
  have D3 : RowKit.Hid (FdS 77 w1.heap.size (· = pq) w3 pq [] 0 false) := by
    rw [hpq]
    obtain ⟨u, k1, k2, k3, k4⟩ := d3
    exact Lib.hid ⟨u, k1, own_mono k2 (by omega), by omega, k4⟩
  rw [← hpf, ← hpq]
  have hst := fInv.step l fInv.nil
  rw [List.nil_append, List.drop_zero] at hst
  have KF := Lib.hid (ffeed_any w1.heap.size (· = pf) pf [] l 0 false (.slice a l.length c) w3 (D2.out.grew g3) (B1.out.grew (g2.trans g3)) (by omega) (by simp; omega))
  rw [hst.2.1] at KF
  have HPF := Lib.hid hpf
  have HPQ := Lib.hid hpq
  have HS12 := Lib.hid hs12
  have HS23 := Lib.hid hs23
  obtain ⟨Kw, hKw⟩ : ∃ X, X = fdK [] l false := ⟨_, rfl⟩
  obtain ⟨nw, hnw⟩ : ∃ X, X = fdN [] l 0 false := ⟨_, rfl⟩
  obtain ⟨fs, hfs⟩ : ∃ X, X = (walkL false l 0).1 := ⟨_, rfl⟩
  rw [← hKw, ← hnw, ← hfs] at KF
  have hiw := hst.1
  rw [← hKw, ← hnw] at hiw
  have HIW := Lib.hid hiw
  have HFS := Lib.hid hfs
  clear d3 hpf hpq hs12 hs23 hst hKw hnw hiw hfs
  go_wp2_with fail
  refine KF.out.mono ?_
  rintro e w5 ⟨vw, rfl, Fw, bw, d5, f5, s5, hb5, r5, k5⟩
  have hsz5 : w3.heap.size ≤ w5.heap.size := f5.size
  have hqlt : pq < w3.heap.size := by have := HPQ.out; have := HS23.out; omega
  have g5 : Grew w1 w5 := f5.grew (g2.trans g3) (fun i hi => by rw [hi, HPF.out]; exact Nat.le_refl _)
  have dq5 := D3.out.fr f5 (fun k h1 h2 => by have := HPF.out; have := HPQ.out; have := HS12.out; omega)
  have hdis : ∀ k, Fw k → ¬ k = pq := by
    intro k hk e
    rcases s5 k hk with h | h
    · have := HPF.out; have := HPQ.out; have := HS12.out; omega
    · omega
  have hi0 : FsI w1 w5 pq l 0 (.slice none 0 0) w5 [] [] 0 0 (· = pq) :=
    ⟨FoundsV.nil _ _, by simp [walkL_nil], fun k _ => ⟨by simp [Value.ownBlock], fun p hp => by cases hp⟩, dq5, fun k hk => .inl hk, by rw [List.take_zero]; exact fInv.nil, Fr.refl _ _⟩
  have HI0 := Lib.hid hi0
  have D5 := Lib.hid d5
  have R5 := Lib.hid r5
  have HB5 := Lib.hid hb5
  have HQLT := Lib.hid hqlt
  have HDIS := Lib.hid hdis
  have hqge : w1.heap.size ≤ pq := by have := HPQ.out; have := HS12.out; omega
  have HQGE := Lib.hid hqge
  clear d5 f5 s5 hb5 r5 k5 hsz5 hqlt dq5 hdis hi0 hqge
  go_wp2
  go_loopw [8, 9, 10] (fun gv av iv wr => ∃ (at_ i : Nat) (ps : List FV) (K : List UInt8) (n told : Nat) (F : Nat → Prop), at_ ≤ l.length ∧ i ≤ C.length ∧ av = .int .i64 at_ ∧ iv = .int .i64 i ∧ FsI w1 w5 pq l at_ gv wr ps K n told F) (fun _ _ iv _ => C.length - (intOf iv).toNat)
  case atStart => exact ⟨0, 0, [], [], 0, 0, _, Nat.zero_le _, Nat.zero_le _, rfl, rfl, HI0.out⟩
  case round =>
    obtain ⟨at_, i, ps, K, n, told, F, hat, hi, rfl, rfl, hI⟩ := hrel
    have gr : Grew w1 wr := hI.fr.grew g5 (fun k e => by have := HQGE.out; omega)
    by_cases hlt : i < C.length
    · obtain ⟨cb, co, rfl, hcc⟩ := QCC.out (by omega)
      have x0 := (below_ext (g1.trans gr)) _ _ (hcc i (.int .u8 (C[i].toNat : Int)) (by simp [bv, hlt]))
      have hu := u8_int C[i]
      obtain ⟨cut, hcut⟩ : ∃ cut : Nat, cut = C[i].toNat := ⟨_, rfl⟩
      rw [← hcut] at x0 hu
      obtain ⟨to, hto⟩ : ∃ to : Nat, min ((at_ : Int) + (cut : Int)) (l.length : Int) = (to : Int) := ⟨(min ((at_ : Int) + (cut : Int)) (l.length : Int)).toNat, by omega⟩
      have hlo : at_ ≤ to := by omega
      have hhi : to ≤ l.length := by omega
      have hcA := bs_cutA (B1.out.grew gr) at_ to hlo hhi
      have hml : ((l.drop at_).take (to - at_)).length = to - at_ := by rw [List.length_take, List.length_drop]; omega
      have hle2 := hI.inv.le
      have hlt2 : (l.take at_).length = at_ := by rw [List.length_take]; omega
      have km := ffeed_any w1.heap.size F pq K _ n false _ wr hI.fd hcA (by omega) (by rw [hml]; omega)
      have KM := Lib.hid (fun sl (e : sl = Value.slice (if c = at_ then a else a.map fun x => x.add at_) (to - at_) (c - at_)) => (congrArg (fun sl => #[Value.pointer (some ⟨pq, 0, none⟩), sl]) e) ▸ km)
      clear km
      have HI := Lib.hid hI
      have hx0 : (0 : Int) ≤ (i : Int) := by omega
      have hx1 : (i : Int) < (C.length : Int) := by omega
      have z0 : (0 : Int) ≤ (at_ : Int) := by omega
      have z1 : (at_ : Int) ≤ (to : Int) := by omega
      have z2 : (to : Int) ≤ (c : Int) := by omega
      have z4 : ((to : Int)).toNat = to := by omega
      have hat' : (at_ : Int) ≤ 3000 := by omega
      clear hcc hcA hml hle2 hlt2 hI hcut
      rcases Decidable.em (c = at_) with rfl | hce
      all_goals go_wp2_with fail
      all_goals (
       (refine (KM.out _ (by first | (rw [if_pos rfl, Nat.sub_self]; done) | (rw [if_pos rfl, Nat.sub_self]) | (rw [if_neg (by assumption)]) | simp_all)).mono ?_)
       rintro e W1 ⟨vr, rfl, hq⟩
       obtain ⟨qs, r1, r2, r3, r4, r5, r6⟩ := HI.out.next to hlo hq
       have R1 := Lib.hid r1
       have R2 := Lib.hid r2
       have R3 := Lib.hid r3
       have R6 := Lib.hid r6
       clear r1 r2 r3 r6 hq
       go_wp2_with (at_builtin; refine wpList_catF rfl _ _ rfl w5.heap.size _ ps rfl R1.out _ rfl qs R2.out R3.out (by omega) r5 ?_; intro v' W2 hv _ hg ho)
       obtain ⟨ps', K', n', told', F', hI'⟩ := R6.out v' W2 hv hg ho
       have HI' := Lib.hid hI'
       clear hv hg ho hI'
       go_wp2
       go_roundw
       case rel => exact ⟨to, i + 1, ps', K', n', told', F', hhi, by omega, rfl, by go_num, HI'.out⟩
       case measure => simp [intOf]; omega)
    · obtain rfl : i = C.length := by omega
      have hcA := bs_cutA (B1.out.grew gr) at_ l.length hat (Nat.le_refl _)
      have hml : ((l.drop at_).take (l.length - at_)).length = l.length - at_ := by rw [List.length_take, List.length_drop]; omega
      have hle2 := hI.inv.le
      have hlt2 : (l.take at_).length = at_ := by rw [List.length_take]; omega
      have km := ffeed_any w1.heap.size F pq K _ n false _ wr hI.fd hcA (by omega) (by rw [hml]; omega)
      have KM := Lib.hid (fun sl (e : sl = Value.slice (if c = at_ then a else a.map fun x => x.add at_) (l.length - at_) (c - at_)) => (congrArg (fun sl => #[Value.pointer (some ⟨pq, 0, none⟩), sl]) e) ▸ km)
      clear km
      have HI := Lib.hid hI
      have z0 : (0 : Int) ≤ (at_ : Int) := by omega
      have z1 : (at_ : Int) ≤ (l.length : Int) := by omega
      have z2 : (l.length : Int) ≤ (c : Int) := by omega
      clear hcA hml hle2 hlt2 hI
      rcases Decidable.em (c = at_) with rfl | hce
      all_goals go_wp2_with fail
      all_goals (
       (refine (KM.out _ (by first | (rw [if_pos rfl, Nat.sub_self]; done) | (rw [if_pos rfl, Nat.sub_self]) | (rw [if_neg (by assumption)]) | simp_all)).mono ?_)
       rintro e W1 ⟨vr, rfl, hq⟩
       obtain ⟨qs, r1, r2, r3, r4, r5, r6⟩ := HI.out.next l.length hat hq
       have R1 := Lib.hid r1
       have R2 := Lib.hid r2
       have R3 := Lib.hid r3
       have R6 := Lib.hid r6
       clear r1 r2 r3 r6 hq
       go_wp2_with (at_builtin; refine wpList_catF rfl _ _ rfl w5.heap.size _ ps rfl R1.out _ rfl qs R2.out R3.out (by omega) r5 ?_; intro v' W2 hv _ hg ho)
       obtain ⟨ps', K', n', told', F', hI'⟩ := R6.out v' W2 hv hg ho
       have gr2 : Grew w1 W2 := hI'.fr.grew g5 (fun k e => by have := HQGE.out; omega)
       -- all of it has come
       have his := hI'.is
       have hiv := hI'.inv
       rw [List.take_length] at his hiv
       obtain ⟨e1, e2, e3⟩ := hiv
       obtain ⟨e4, e5, e6⟩ := HIW.out
       have hn : n' = nw := by rw [e1, e4]
       have hK : K' = Kw := by rw [e2, e5, hn]
       have hle3 := HIW.out.le
       have rg : FRs W2 v' fs := ⟨ps', by rw [his, HFS.out], hI'.row.fr⟩
       have rw_ := (R5.out.fr2 hI'.fr (fun k e => by have := HB5.out; have := HQLT.out; omega)).frs
       have dw := D5.out.fr hI'.fr HDIS.out
       have dp := hI'.fd
       rw [hn, hK] at dp
       have hFd : ∀ k, F' k → ¬ Fw k := fun k h1 h2 => by
         rcases hI'.new k h1 with h | h
         · exact HDIS.out k h2 h
         · have := (D5.out.own k h2).2; omega
       have KA := Lib.hid (all_any l _ W2 (B1.out.grew gr2) (by omega))
       rw [← HFS.out] at KA
       obtain ⟨P, hP⟩ : ∃ P, P = (walkL false l 0).2.2 := ⟨_, rfl⟩
       rw [← hP] at KA
       have RG := Lib.hid rg
       have RW := Lib.hid rw_
       have DW := Lib.hid dw
       have DP := Lib.hid dp
       have HFD := Lib.hid hFd
       have HCM : RowKit.Hid (nw + Kw.length = l.length) := hle3.2
       have GR2 := Lib.hid gr2
       clear hv hg ho hI' his e1 e2 e3 e4 e5 e6 hn hK hle3 rg rw_ dw dp hFd hP HI KM R1 R2 R3 R6 gr2
       go_wp2_with fail
       refine KA.out.mono ?_
       rintro e W3 ⟨va, rfl, ra, g3⟩
       have RA := Lib.hid ra.frs
       have hss : (fs == fs) = true := by simp
       have ks1 := fun W (g : Grew W2 W) => r14same_any fs fs v' vw W (RG.out.grew g) (RW.out.grew g)
       have ks2 := fun W (g : Grew W3 W) => r14same_any fs fs v' va W ((RG.out.grew g3).grew g) (RA.out.grew g)
       rw [hss] at ks1 ks2
       have KS1 := Lib.hid ks1
       have KS2 := Lib.hid ks2
       have kh1 := fun W (g : Grew W2 W) => fheld_any _ _ _ _ _ _ W (DP.out.grew g)
       have kh2 := fun W (g : Grew W2 W) => fheld_any _ _ _ _ _ _ W (DW.out.grew g)
       simp only [Bool.false_eq_true, if_false] at kh1 kh2
       obtain ⟨H, hH⟩ : ∃ H, H = Kw.length := ⟨_, rfl⟩
       rw [← hH] at kh1 kh2
       have KH1 := Lib.hid kh1
       have KH2 := Lib.hid kh2
       have kc := fun W (g : Grew W2 W) => fcame_any _ _ _ _ _ _ W (DP.out.grew g) (by have := HCM.out; omega) (by have := HCM.out; omega)
       rw [HCM.out] at kc
       have KC := Lib.hid kc
       have z5 : ((H : Int) != (H : Int)) = false := by simp
       have z6 : ((l.length : Int) != (l.length : Int)) = false := by simp
       clear ra hss ks1 ks2 kh1 kh2 hH kc
       go_wp2_with fail
       refine (KS1.out _ g3).mono ?_
       rintro e W4 ⟨rfl, g4⟩
       go_wp2_with fail
       refine (KS2.out _ g4).mono ?_
       rintro e W5 ⟨rfl, g45⟩
       have gA := (g3.trans g4).trans g45
       go_wp2_with fail
       refine (KH1.out _ gA).mono ?_
       rintro e W6 ⟨rfl, rfl⟩
       go_wp2_with fail
       refine (KH2.out _ gA).mono ?_
       rintro e W6 ⟨rfl, rfl⟩
       go_wp2_with fail
       refine (KC.out _ gA).mono ?_
       rintro e W6 ⟨rfl, d6⟩
       have gB := gA.trans d6.grew
       have DP6 := Lib.hid (DP.out.grew gB)
       have DW6 := Lib.hid (DW.out.grew gB)
       have G6 := Lib.hid (GR2.out.trans gB)
       have KE := Lib.hid (fend_any w1.heap.size F' pq Kw nw false W6 DP6.out (by have := HCM.out; omega) (by have := HCM.out; omega))
       clear g3 g4 g45 gA d6 gB
       go_wp2_with fail
       refine KE.out.mono ?_
       rintro e W7 ⟨vp, rfl, F7, b7, d7, f7, s7, hb7, r7, k7⟩
       have dw7 := DW6.out.fr f7 (fun k h1 h2 => HFD.out k h2 h1)
       have G7 := Lib.hid (f7.grew G6.out (fun i hi => (DP6.out.own i hi).1))
       have KE2 := Lib.hid (fend_any w1.heap.size Fw pf Kw nw false W7 dw7 (by have := HCM.out; omega) (by have := HCM.out; omega))
       have HFW := Lib.hid (fun k hk => (DW6.out.own k hk))
       have R7 := Lib.hid r7
       have HB7 := Lib.hid hb7
       clear d7 f7 s7 hb7 r7 k7 dw7
       go_wp2_with fail
       refine KE2.out.mono ?_
       rintro e W8 ⟨vq, rfl, F8, b8, d8, f8, s8, hb8, r8, k8⟩
       have rp := (R7.out.fr2 f8 (fun k hk => by have := (HFW.out k hk).2; have := HB7.out; omega)).frs
       have G8 := Lib.hid (f8.grew G7.out (fun i hi => (HFW.out i hi).1))
       have ks := r14same_any _ _ vp vq W8 rp r8.frs
       rw [show (fdEnd Kw nw false == fdEnd Kw nw false) = true by simp] at ks
       have KS := Lib.hid ks
       clear d8 f8 s8 hb8 r8 k8 rp ks
       go_wp2_with fail
       refine KS.out.mono ?_
       rintro e W9 ⟨rfl, g9⟩
       go_wp2
       go_ret
       exact ⟨rfl, g1.trans (G8.out.trans g9)⟩)
end Go.Proofs.Ytigaanedkobokaa
