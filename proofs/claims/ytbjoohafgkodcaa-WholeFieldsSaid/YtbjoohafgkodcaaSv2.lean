/- WholeFields: the walk. -/
import Derived.Test.YtbjoohafgkodcaaSv1
namespace Go.Proofs.Ytbjoohafgkodcaa
open Go Go.RowKit Go.Shelf
attribute [local go_sem] Oper.semAt_some

/-- a slice of fields put behind a row of the call's own -/
theorem wpList_catFl {W : World} {ops : Array Oper} {rest : List Oper} {o : Oper} {a : Act} {Q : Exit → Act → World → Prop} (hgd : o.guard = none) (s x : Operand)
    (ho : o.op = .call { callee := .builtin .append, args := #[s, x], argTypes := #[36, 36] })
    (base : Nat) (v : Value) (A B : List FFV) (hs : a.eval s = v) (hown : OwnF W base v A) (xv : Value) (hx : a.eval x = xv) (hB : FlR W xv B)
    (hlen : A.length + B.length ≤ 1000000000) (hbase : base ≤ W.heap.size)
    (h : ∀ v' w', OwnF w' base v' (A ++ B) → Below base W w' → wpList Try.prog ops Q rest (a.put o.dst v') w') : wpList Try.prog ops Q (o :: rest) a W := by
  obtain ⟨i0, hi, hz0, hz1, hz2⟩ := info_parts info_field
  refine wpList_app hgd s x 36 ho base 44 i0 (.agg #[.int .i64 0, .int .u8 0, .int .u64 0, .slice none 0 0, .int .i64 0]) 5 56 Try.underlying36 hi hz0 hz1 hz2 rfl (by decide) v A.length _ hs hown xv B.length (B.flatMap ffv) hx hB.1 (fun u hu => ?_) (by unfold maxLen; omega) (by omega) hbase
    fun v' w' h1 h2 => h v' w' (by rw [OwnF, List.length_append, List.flatMap_append]; exact h1) (grownBy_below h2 hown hbase)
  obtain ⟨y, hy, hu2⟩ := List.mem_flatMap.1 hu
  exact ffv_one y (hB.2 y hy) u hu2
theorem FlR.sub {W : World} {v u : Value} {A B : List FFV} (h : FlR W v A) (hs : ∀ p ∈ B, p ∈ A) (hb : Sl W u B.length 5 (B.flatMap ffv)) : FlR W u B := ⟨hb, fun p hp => h.2 p (hs p hp)⟩
set_option maxRecDepth 100000 in
set_option maxHeartbeats 8000000 in
theorem wfields_walk (m : Msg) (v : Value) (ver num : Int) (w : World) (hm : MsgR w v m) (hn : ∀ i, i < 6 → m.n i < 18446744073709551616) :
    Calls Try.prog 11 #[v, .int .i64 ver, .int .i64 num] w fun e w' => e = .returned (.bool true) ∧ Grew w w' := by
  obtain ⟨lv, rfl, hl, -⟩ := hm
  obtain ⟨a, c, rfl⟩ := tx_len hl
  obtain ⟨W0, hW0⟩ : ∃ W0, W0 = w.alloc (.cells (msgA m (.slice a m.l.length c)) 29) := ⟨_, rfl⟩
  have g0 : Grew w W0 := by rw [hW0]; exact grew_alloc _ _
  have K0 := Lib.hid (show Blk W0 w.heap.size 29 (msgA m (.slice a m.l.length c)) by rw [hW0]; exact Blk.new _ _ _)
  have G0 := Lib.hid g0
  have HL := Lib.hid hl
  have HN := Lib.hid hn
  simp only [msgA] at hW0 ⊢
  clear g0 hl hn
  go_enter Try.func11, Try.ntmps11
  go_upto_region 1 with (fail)
  rw [← hW0]
  clear hW0
  go_wp2_with fail
  refine (awakeMsg_any _).mono ?_
  rintro e w1 ⟨rfl, g1⟩
  have G1 := Lib.hid (G0.out.trans g1)
  have D1 := Lib.hid g1
  have KSM := Lib.hid (small9_any m _ w1 (HL.out.grew G1.out))
  obtain ⟨c0, c1, c2, c3, c4, c5, c6, c7, c8, c9⟩ := mcells (K0.out.grew g1)
  simp only [msgA] at KSM
  clear g1
  go_wp2_with fail
  refine KSM.out.mono ?_
  rintro e w2 ⟨rfl, g2⟩
  have G2 := Lib.hid (G1.out.trans g2)
  have D2 := Lib.hid (D1.out.trans g2)
  clear g2 c0 c1 c2 c3 c4 c5 c6 c7 c8 c9 KSM
  cases hs : smallB m with
  | false =>
    clear hs
    go_wp2
    go_ret
    exact ⟨rfl, G2.out⟩
  | true =>
  have HE := Lib.hid (small_ok hs HN.out)
  clear hs
  have KE := Lib.hid (fun W (g : Grew w W) => ebytes_any m a c ver W HE.out (HL.out.grew g))
  have HORD := Lib.hid (fun h => order_law (m := m) (ver := ver) num h HN.out)
  have HSM := Lib.hid (fun h => (small_msg (m := m) (ver := ver) h HN.out).2.2.1)
  have HMB := Lib.hid (show (chkM m (ofKind m.k (rowsIn ver))).1 ≠ 0 → msgB m (ofKind m.k (rowsIn ver)) = [] from fun h => by unfold msgB; rw [if_pos h])
  obtain ⟨E, hE⟩ : ∃ E, E = chkM m (ofKind m.k (rowsIn ver)) := ⟨_, rfl⟩
  obtain ⟨B, hB⟩ : ∃ B, B = msgB m (ofKind m.k (rowsIn ver)) := ⟨_, rfl⟩
  rw [← hE, ← hB] at KE HMB
  rw [← hE, ← hB] at HORD
  rw [← hE, ← hB] at HSM
  simp only [msgA, fltV] at KE
  clear hE hB
  obtain ⟨c0, c1, c2, c3, c4, c5, c6, c7, c8, c9⟩ := mcells (K0.out.grew D2.out)
  go_wp2_with fail
  refine (KE.out _ G2.out).mono ?_
  rintro e w3 ⟨v3, rfl, ho3, g3⟩
  obtain ⟨a3, c3', rfl⟩ := bs_len (Sl.of_own ho3)
  obtain ⟨V3, hV3⟩ : ∃ V, V = w3.alloc (.cells #[.int .i64 (E.1 : Nat), .int .i64 (E.2 : Nat)] 32) := ⟨_, rfl⟩
  have gv : Grew w3 V3 := by rw [hV3]; exact grew_alloc _ _
  have KF3 := Lib.hid (show Blk V3 w3.heap.size 32 #[.int .i64 (E.1 : Nat), .int .i64 (E.2 : Nat)] by rw [hV3]; exact Blk.new _ _ _)
  have M3 := Lib.hid (g3.trans gv)
  have G3 := Lib.hid (G2.out.trans M3.out)
  have HO3 := Lib.hid (own_grew ho3 gv)
  have D3 := Lib.hid (D2.out.trans M3.out)
  obtain ⟨x0, x1, -, -⟩ := cells_of KF3.out
  clear gv g3 c0 c1 c2 c3 c4 c5 c6 c7 c8 c9 KE ho3
  go_upto_region 6 with (fail)
  rw [← hV3]
  clear hV3
  by_cases he : E.1 = 0
  case neg =>
    have qe : ((E.1 : Int) != 0) = true := by simp; omega
    have hb0 := HMB.out he
    subst hb0
    go_wp2
    go_ret
    exact ⟨rfl, G3.out⟩
  have qe : ((E.1 : Int) != 0) = false := by simp; omega
  obtain ⟨C, hp, hcl, hlb, hd0, hd1, hiff, hsm⟩ := HORD.out he
  have hsf := HSM.out he
  have hok := fieldsR_ok B (by rw [hsf])
  have KFI := Lib.hid (fun W v (hb : Bs W v B) => sfields_any B v W hb (by omega))
  rw [hsf] at KFI
  obtain ⟨F, hF⟩ : ∃ F, F = (fieldsR B).1 := ⟨_, rfl⟩
  rw [← hF] at KFI hok hp
  have KD := Lib.hid (fun W v (hb : Bs W v C) => ldecode_any m.k ver C v W hb (by omega))
  have KX := Lib.hid (fun W v (hb : Bs W v C) => sdecode_any m.k ver C v W hb (by omega))
  unfold DecP at KD
  unfold StrP at KX
  obtain ⟨D, hD⟩ : ∃ D, D = decM m.k ver C := ⟨_, rfl⟩
  obtain ⟨S, hS⟩ : ∃ S, S = strM m.k ver C := ⟨_, rfl⟩
  rw [← hD] at KD hd0 hd1
  rw [← hS] at KX hiff hsm
  obtain ⟨Dm, De, Da⟩ := D
  obtain ⟨Sm, Se, Sa⟩ := S
  have hd0 : De = 0 := hd0
  subst hd0
  simp only [msgA, fltI, Int.natCast_zero] at KD KX
  simp only [] at KFI
  have HP := Lib.hid hp
  have HCL := Lib.hid hcl
  have HD1 := Lib.hid (show sameB Dm m = true from hd1)
  have HIFF := Lib.hid (show Se = 0 ↔ B = C from hiff)
  have HSS := Lib.hid (show Se = 0 → sameB Sm m = true from hsm)
  have HOK := Lib.hid hok
  have HLB := Lib.hid hlb
  have HFL := Lib.hid (show F.length ≤ 100000 by
    have := fieldsR_len B
    rw [← hF] at this
    omega)
  clear hF hD hS he HORD HSM HMB hp hcl hlb hd1 hiff hsm hok hsf
  go_wp2_with fail
  refine (KFI.out V3 _ (Sl.of_own HO3.out)).mono ?_
  rintro e w8 ⟨v8, rfl, ⟨ps, hps, hfv⟩, g8⟩
  obtain ⟨a8, c8, rfl, -⟩ := (Sl.of_own hfv.1).open
  obtain ⟨V8, hV8⟩ : ∃ V, V = w8.alloc (.cells #[.int .i64 0, .int .i64 0] 32) := ⟨_, rfl⟩
  have gv : Grew w8 V8 := by rw [hV8]; exact grew_alloc _ _
  have KF8 := Lib.hid (show Blk V8 w8.heap.size 32 #[.int .i64 0, .int .i64 0] by rw [hV8]; exact Blk.new _ _ _)
  have M8 := Lib.hid (g8.trans gv)
  have G8 := Lib.hid (G3.out.trans M8.out)
  have HF8 := Lib.hid (hfv.flr.grew gv)
  have HPS := Lib.hid hps
  have D8 := Lib.hid (D3.out.trans M8.out)
  clear gv g8 hfv
  go_upto_region 9 with (fail)
  rw [← hV8]
  clear hV8
  have hpl : ps.length ≤ 100000 := by have := congrArg List.length HPS.out; rw [List.length_map] at this; have := HFL.out; omega
  obtain ⟨P, hP⟩ : ∃ P, P = ps.filter (fun p => p.1.1 != num) := ⟨_, rfl⟩
  obtain ⟨Q, hQ⟩ : ∃ Q, Q = ps.filter (fun p => p.1.1 == num) := ⟨_, rfl⟩
  have hPl : P.length ≤ ps.length := by rw [hP]; exact List.length_filter_le _ _
  have hQl : Q.length ≤ ps.length := by rw [hQ]; exact List.length_filter_le _ _
  have hPQ : (P ++ Q).map (·.1) = (F.filter fun x => x.1 != num) ++ F.filter fun x => x.1 == num := by
    rw [List.map_append, hP, hQ, ← HPS.out, List.filter_map, List.filter_map]; rfl
  have hsub : ∀ p ∈ P ++ Q, p ∈ ps := by
    intro p hp
    rcases List.mem_append.1 hp with hp | hp
    · rw [hP] at hp; exact (List.mem_filter.1 hp).1
    · rw [hQ] at hp; exact (List.mem_filter.1 hp).1
  have hput : putsF 0 ((P ++ Q).map (·.1)) = (C, 0, 0) := by rw [hPQ]; exact HP.out
  have hfok : ∀ p ∈ P ++ Q, p.1.ok ∧ (fB p.1).length ≤ 100000000 := fun p hp => by
    have h1 := HOK.out p.1 (by rw [← HPS.out]; exact List.mem_map_of_mem (hsub p hp))
    exact ⟨h1.1, by omega⟩
  have KWO := Lib.hid (skwo_any ps (.slice a8 ps.length c8) num V8 HF8.out (by omega))
  have KOF := Lib.hid (fun W (g : Grew V8 W) => skof_any ps (.slice a8 ps.length c8) num W (HF8.out.grew g) (by omega))
  have KPU := Lib.hid (fun W v (h : FlR W v (P ++ Q)) => skPut_any (P ++ Q) v W h hfok (by rw [List.length_append]; omega))
  rw [← hP] at KWO
  rw [← hQ] at KOF
  rw [hput] at KPU
  simp only [] at KPU
  have HSUB := Lib.hid hsub
  clear hP hQ hPQ hput hfok hsub HP x0 x1 hps
  go_wp2_with fail
  refine KWO.out.mono ?_
  rintro e w9 ⟨v9, rfl, ho9, g9⟩
  obtain ⟨a9, c9, rfl, -⟩ := (Sl.of_own ho9).open
  have O9 := Lib.hid ho9
  have M9 := Lib.hid g9
  clear ho9 g9 KWO
  go_wp2_with fail
  refine (KOF.out _ M9.out).mono ?_
  rintro e w10 ⟨v10, rfl, ho10, g10⟩
  obtain ⟨a10, c10, rfl, -⟩ := (Sl.of_own ho10).open
  have O10 := Lib.hid (own_grew O9.out g10)
  have M10 := Lib.hid (M9.out.trans g10)
  have FQ := Lib.hid ((HF8.out.grew M10.out).sub (fun p hp => HSUB.out p (List.mem_append.2 (.inr hp))) (Sl.of_own ho10))
  clear ho10 g10 KOF
  go_wp2_with (at_builtin; refine wpList_catFl rfl _ _ rfl V8.heap.size (.slice a9 P.length c9) P Q rfl O10.out _ rfl FQ.out (by omega) M10.out.size ?_; intro v11 w11 hown11 hB11)
  have M11 := Lib.hid (show Grew V8 w11 from Below.trans M10.out hB11)
  obtain ⟨a11, c11, rfl, -⟩ := (Sl.of_own hown11).open
  have F11 := Lib.hid ((HF8.out.grew M11.out).sub HSUB.out (Sl.of_own hown11))
  refine (KPU.out _ _ F11.out).mono ?_
  rintro e w12 ⟨v12, rfl, ho12, g12⟩
  obtain ⟨a12, n12, c12, rfl, hn12⟩ := bs_shape (Sl.of_own ho12)
  have hn12 : n12 = B.length := hn12.out.trans HCL.out
  subst hn12
  obtain ⟨V12, hV12⟩ : ∃ V, V = w12.alloc (.cells #[.int .i64 0, .int .i64 0] 32) := ⟨_, rfl⟩
  have gv : Grew w12 V12 := by rw [hV12]; exact grew_alloc _ _
  have kf12 : Blk V12 w12.heap.size 32 #[.int .i64 0, .int .i64 0] := by rw [hV12]; exact Blk.new _ _ _
  have M12 := Lib.hid ((Grew.trans M11.out g12).trans gv)
  have G12 := Lib.hid (G8.out.trans M12.out)
  have D12 := Lib.hid (D8.out.trans M12.out)
  have B12 := Lib.hid (Sl.of_own (own_grew ho12 gv))
  have B3 := Lib.hid (Sl.of_own (own_grew HO3.out (M8.out.trans M12.out)))
  obtain ⟨x0, x1, -, -⟩ := cells_of (KF8.out.grew M12.out)
  obtain ⟨y0, y1, -, -⟩ := cells_of kf12
  clear gv kf12 ho12 g12 hown11 hB11 O9 O10 M9 M10 M11 F11 FQ KPU
  go_upto_region 10 with (fail)
  rw [← hV12]
  clear hV12
  obtain ⟨c0, c1, c2, c3, c4, c5, c6, c7, c8, c9⟩ := mcells (K0.out.grew D12.out)
  go_wp2_with fail
  refine (KD.out V12 _ B12.out).mono ?_
  rintro e w13 ⟨lv13, rfl, ho13, g13⟩
  obtain ⟨a13, c13', rfl⟩ := tx_len (Sl.of_own ho13)
  obtain ⟨V13, hV13⟩ : ∃ V, V = (w13.alloc (.cells (msgA Dm (.slice a13 Dm.l.length c13')) 29)).alloc (.cells #[.int .i64 0, .int .i64 Da] 32) := ⟨_, rfl⟩
  have gv : Grew w13 V13 := by rw [hV13]; exact grew22 _ _ _
  have KM13 := Lib.hid (show Blk V13 w13.heap.size 29 (msgA Dm (.slice a13 Dm.l.length c13')) by rw [hV13]; exact (Blk.new _ _ _).alloc _)
  have KF13 := Lib.hid (show Blk V13 (w13.heap.size + 1) 32 #[.int .i64 0, .int .i64 Da] by rw [hV13]; exact Blk.at (by simp))
  have T13 := Lib.hid (own_grew ho13 gv)
  have M13 := Lib.hid (g13.trans gv)
  have G13 := Lib.hid (G12.out.trans M13.out)
  have D13 := Lib.hid (D12.out.trans M13.out)
  simp only [msgA] at hV13
  clear gv ho13 g13 x0 x1 y0 y1 c0 c1 c2 c3 c4 c5 c6 c7 c8 c9
  go_upto_region 13 with (fail)
  rw [← hV13]
  clear hV13
  obtain ⟨c0, c1, c2, c3, c4, c5, c6, c7, c8, c9⟩ := mcells (K0.out.grew D13.out)
  go_wp2_with fail
  refine (KX.out V13 _ (B12.out.grew M13.out)).mono ?_
  rintro e w14 ⟨lv14, rfl, ho14, g14⟩
  obtain ⟨a14, c14', rfl⟩ := tx_len (Sl.of_own ho14)
  obtain ⟨V14, hV14⟩ : ∃ V, V = (w14.alloc (.cells (msgA Sm (.slice a14 Sm.l.length c14')) 29)).alloc (.cells #[.int .i64 (Se : Nat), .int .i64 Sa] 32) := ⟨_, rfl⟩
  have gv : Grew w14 V14 := by rw [hV14]; exact grew22 _ _ _
  have KM14 := Lib.hid (show Blk V14 w14.heap.size 29 (msgA Sm (.slice a14 Sm.l.length c14')) by rw [hV14]; exact (Blk.new _ _ _).alloc _)
  have KF14 := Lib.hid (show Blk V14 (w14.heap.size + 1) 32 #[.int .i64 (Se : Nat), .int .i64 Sa] by rw [hV14]; exact Blk.at (by simp))
  have T14 := Lib.hid (own_grew ho14 gv)
  have M14 := Lib.hid (g14.trans gv)
  have G14 := Lib.hid (G13.out.trans M14.out)
  have D14 := Lib.hid (D13.out.trans M14.out)
  simp only [msgA] at hV14
  clear gv ho14 g14 c0 c1 c2 c3 c4 c5 c6 c7 c8 c9
  go_upto_region 14 with (fail)
  rw [← hV14]
  clear hV14
  have KQ := Lib.hid (same_any B C _ _ V14 (B3.out.grew (M13.out.trans M14.out)) (B12.out.grew (M13.out.trans M14.out)))
  have KS := Lib.hid (fun W (g : Grew V14 W) => vsame_any Dm m (.slice a13 Dm.l.length c13') (.slice a m.l.length c) W ((Sl.of_own T13.out).grew (M14.out.trans g)) (HL.out.grew (G14.out.trans g)))
  have KT := Lib.hid (fun W (g : Grew V14 W) => vsame_any Sm m (.slice a14 Sm.l.length c14') (.slice a m.l.length c) W ((Sl.of_own T14.out).grew g) (HL.out.grew (G14.out.trans g)))
  rw [HD1.out] at KS
  simp only [msgA] at KS KT
  by_cases hbc : B = C
  · have hs0 := HIFF.out.2 hbc
    have hs1 := HSS.out hs0
    rw [hs1] at KT
    rw [show (B == C) = true by rw [hbc]; simp] at KQ
    subst hs0
    clear hbc hs1 HIFF HSS
    go_wp2_with fail
    refine KQ.out.mono ?_
    rintro e w15 ⟨rfl, hd15⟩
    have M15 := Lib.hid hd15.grew
    obtain ⟨c0, c1, c2, c3, c4, c5, c6, c7, c8, c9⟩ := mcells (K0.out.grew (D14.out.trans M15.out))
    obtain ⟨d0, d1, d2, d3, d4, d5, d6, d7, d8, d9⟩ := mcells (KM13.out.grew (M14.out.trans M15.out))
    obtain ⟨x0, x1, -, -⟩ := cells_of (KF13.out.grew (M14.out.trans M15.out))
    clear hd15 KQ
    go_wp2_with fail
    refine (KS.out _ M15.out).mono ?_
    rintro e w16 ⟨rfl, g16⟩
    have M16 := Lib.hid (M15.out.trans g16)
    clear g16 c0 c1 c2 c3 c4 c5 c6 c7 c8 c9 d0 d1 d2 d3 d4 d5 d6 d7 d8 d9 x0 x1 KS
    obtain ⟨c0, c1, c2, c3, c4, c5, c6, c7, c8, c9⟩ := mcells (K0.out.grew (D14.out.trans M16.out))
    obtain ⟨d0, d1, d2, d3, d4, d5, d6, d7, d8, d9⟩ := mcells (KM14.out.grew M16.out)
    obtain ⟨x0, x1, -, -⟩ := cells_of (KF14.out.grew M16.out)
    go_wp2_with fail
    refine (KT.out _ M16.out).mono ?_
    rintro e w17 ⟨rfl, g17⟩
    go_wp2
    go_ret
    exact ⟨rfl, G14.out.trans (M16.out.trans g17)⟩
  · have hs0 : Se ≠ 0 := fun h => hbc (HIFF.out.1 h)
    have qs : ((Se : Int) == 0) = false := by rw [beq_eq_false_iff_ne]; omega
    rw [show (B == C) = false by simpa using hbc] at KQ
    clear hbc HIFF HSS hs0 KT
    go_wp2_with fail
    refine KQ.out.mono ?_
    rintro e w15 ⟨rfl, hd15⟩
    have M15 := Lib.hid hd15.grew
    obtain ⟨c0, c1, c2, c3, c4, c5, c6, c7, c8, c9⟩ := mcells (K0.out.grew (D14.out.trans M15.out))
    obtain ⟨d0, d1, d2, d3, d4, d5, d6, d7, d8, d9⟩ := mcells (KM13.out.grew (M14.out.trans M15.out))
    obtain ⟨x0, x1, -, -⟩ := cells_of (KF13.out.grew (M14.out.trans M15.out))
    clear hd15 KQ
    go_wp2_with fail
    refine (KS.out _ M15.out).mono ?_
    rintro e w16 ⟨rfl, g16⟩
    have M16 := Lib.hid (M15.out.trans g16)
    clear g16 c0 c1 c2 c3 c4 c5 c6 c7 c8 c9 d0 d1 d2 d3 d4 d5 d6 d7 d8 d9 x0 x1 KS
    obtain ⟨x0, x1, -, -⟩ := cells_of (KF14.out.grew M16.out)
    go_wp2
    go_ret
    exact ⟨rfl, G14.out.trans M16.out⟩
end Go.Proofs.Ytbjoohafgkodcaa
