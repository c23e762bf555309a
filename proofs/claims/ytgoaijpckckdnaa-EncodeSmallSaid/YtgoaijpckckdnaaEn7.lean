/- WholeParts: the walk. ; encode.Size; is the encoder awake: contracts. -/
import Derived.Test.YtgoaijpckckdnaaEn5
import Derived.Test.YtgoaijpckckdnaaGrw
namespace Go.Proofs.Ytgoaijpckckdnaa
open Go Go.RowKit Go.Shelf
attribute [local go_sem] Oper.semAt_some

set_option maxRecDepth 100000 in
set_option maxHeartbeats 4000000 in
theorem esize_any (m : Msg) (a : Option Addr) (c : Nat) (ver : Int) (w : World) (hm : okE m) (hl : Tx w (.slice a m.l.length c) m.l) :
    Calls Try.prog 35 #[.agg (msgA m (.slice a m.l.length c)), .int .i64 ver] w fun e w' => e = .returned (.int .i64 ((msgB m (ofKind m.k (rowsIn ver))).length : Nat)) ∧ Grew w w' := by
  have g0 := grew_alloc w (.cells (msgA m (.slice a m.l.length c)) 57)
  have KB := Lib.hid (ebytes_any m a c ver _ hm (hl.grew g0))
  have G0 := Lib.hid g0
  simp only [msgA] at KB G0 ⊢
  clear g0 hl hm
  go_enter Try.func35, Try.ntmps35
  go_wp2_with fail
  refine KB.out.mono ?_
  obtain ⟨B, hB⟩ : ∃ B, B = msgB m (ofKind m.k (rowsIn ver)) := ⟨_, rfl⟩
  have HB := Lib.hid hB
  rw [← hB]
  clear hB
  generalize chkM m (ofKind m.k (rowsIn ver)) = E
  simp only [fltV]
  rintro e w1 ⟨v1, rfl, ho, g1⟩
  obtain ⟨a1, c1, rfl⟩ := bs_len (Sl.of_own ho)
  have g2 := grew_alloc w1 (.cells #[.int .i64 (E.1 : Nat), .int .i64 (E.2 : Nat)] 27)
  clear ho
  go_wp2
  go_ret
  exact ⟨ret_int (by rw [HB.out]), (G0.out.trans g1).trans g2⟩
/-- the message that an encoder which is awake writes in four bytes -/
def mA : Msg := ⟨1, fun i => if i = 0 then 1 else if i = 1 then 3 else 0, fun _ => ⟨#[]⟩, []⟩
theorem mA_ok : okE mA := ⟨fun i _ => Nat.zero_le _, (fun s (h : s ∈ ([] : List ByteArray)) => absurd h List.not_mem_nil), Nat.zero_le _, fun i _ => by show (if i = 0 then 1 else if i = 1 then 3 else 0) < 18446744073709551616; split <;> (try split) <;> omega⟩
theorem mA_args : msgA mA (.slice none 0 0) = #[.int .u8 1, .int .u64 1, .int .u64 3, .int .u64 0, .int .u64 0, .int .u64 0, .int .u64 0, .string ⟨#[]⟩, .string ⟨#[]⟩, .slice none 0 0] := rfl
theorem mA_chk : chkM mA (ofKind 1 (rowsIn 1)) = (0, 0) := by decide
theorem mA_len : (msgB mA (ofKind 1 (rowsIn 1))).length = 4 := by decide +kernel
set_option maxRecDepth 100000 in
set_option maxHeartbeats 4000000 in
theorem awakeBytes_any (w : World) : Calls Try.prog 55 #[] w fun e w' => e = .returned (.bool true) ∧ Grew w w' := by
  have KB := Lib.hid (fun W => ebytes_any mA none 0 1 W mA_ok (Sl.nil W 1))
  have KC := Lib.hid (fun W => vcheck_any mA (.slice none 0 0) 1 W (okE_okM mA_ok) (Sl.nil W 1) (Nat.zero_le _))
  rw [show Value.slice none mA.l.length 0 = .slice none 0 0 from rfl] at KB
  rw [mA_args, show mA.k = 1 from rfl, mA_chk] at KB KC
  have hlen := mA_len
  generalize msgB mA (ofKind 1 (rowsIn 1)) = B at KB hlen
  obtain ⟨w0, hw0⟩ : ∃ w0, w0 = w.alloc (.cells #[.int .u8 1, .int .u64 1, .int .u64 3, .int .u64 0, .int .u64 0, .int .u64 0, .int .u64 0, .string ⟨#[]⟩, .string ⟨#[]⟩, .slice none 0 0] 57) := ⟨_, rfl⟩
  have g0 : Grew w w0 := by rw [hw0]; exact grew_alloc _ _
  have k0 : Blk w0 w.heap.size 57 (msgA mA (.slice none 0 0)) := by rw [hw0]; exact Blk.new _ _ _
  have K0 := Lib.hid k0
  have G0 := Lib.hid g0
  clear g0 k0
  have hl := Lib.hid hlen
  clear hlen
  go_enter Try.func55, Try.ntmps55
  go_wp2_with fail
  rw [← hw0]
  refine (KB.out _).mono ?_
  clear hw0
  simp only [fltV]
  rintro e w1 ⟨v1, rfl, ho, g1⟩
  obtain ⟨a1, c1, rfl⟩ := bs_len (Sl.of_own ho)
  rw [hl.out]
  have g2 := grew_alloc w1 (.cells #[.int .i64 0, .int .i64 0] 27)
  obtain ⟨x0, x1, x2, x3, x4, x5, x6, x7, x8, x9⟩ := mcells ((K0.out.grew g1).grew g2)
  have HG := Lib.hid ((G0.out.trans g1).trans g2)
  clear ho g1 g2
  go_wp2_with fail
  refine (KC.out _).mono ?_
  simp only [fltV]
  rintro e w2 ⟨rfl, g⟩
  go_wp2
  go_ret
  exact ⟨rfl, HG.out.trans g⟩
end Go.Proofs.Ytgoaijpckckdnaa
namespace Go.Proofs.Ytgoaijpckckdnaa
open Go Go.RowKit Go.Shelf
attribute [local go_sem] Oper.semAt_some

theorem small_ok {m : Msg} (h : smallB m = true) (hn : ∀ i, i < 6 → m.n i < 18446744073709551616) : okE m := by
  unfold smallB at h
  simp at h
  obtain ⟨⟨⟨h0, h1⟩, h2⟩, h3⟩ := h
  refine ⟨fun i hi => ?_, fun s hs => by have := h3 s hs; omega, by omega, hn⟩
  rcases (show i = 0 ∨ i = 1 by omega) with rfl | rfl <;> omega
/-- one step of a region whose order is drawn, from the step of a list -/
def stepQ (K : Act → World → Prop) : Exit → Act → World → Prop
  | .normal, a, w => K a w
  | _, _, _ => False
theorem wp_monoQ {P : Program} {o : Oper} {a : Act} {w : World} {K : Act → World → Prop} {Q Q' : Exit → Act → World → Prop} (hQ : ∀ c a w, Q (.panic c) a w → Q' (.panic c) a w) (hl : LetsOut Q → LetsOut Q') (hh : o.wp P a w K Q) : o.wp P a w K Q' := by
  unfold Oper.wp at *
  generalize (execOp a.eval o).run P w = r at *
  cases r with
  | ok n w' =>
    cases n <;> simp only [Oper.upon] at hh ⊢ <;>
      first
        | exact hh
        | exact Calls.mono hh (fun e w'' he => by cases e <;> first | exact he | exact hQ _ _ _ he | exact hl he)
  | halt x w' => cases x <;> simp only [Oper.upon] at hh ⊢ <;> first | exact hh | exact hQ _ _ _ hh
theorem step_of_list {P : Program} {ops : Array Oper} {Q : Exit → Act → World → Prop} {K : Act → World → Prop} {o : Oper} {a : Act} {w : World} (h : wpList P ops (stepQ K) [o] a w) :
    if Region.wanted o (yielded ops a.tmps) = true then Oper.wp P o a w K Q else K (a.put o.dst undef) w := by
  unfold wpList at h
  split at h
  · rename_i hw
    rw [if_pos hw]
    rcases h with h | ⟨-, _, _, h⟩
    · exact wp_monoQ (fun _ _ _ h => h.elim) (fun ⟨_, _, h⟩ => h.elim) h
    · exact h.elim
  · rename_i hw
    rw [if_neg hw]
    exact h
set_option maxRecDepth 100000 in
set_option maxHeartbeats 8000000 in
theorem wparts_walk (m : Msg) (a : Option Addr) (c : Nat) (ver : Int) (w : World) (hn : ∀ i, i < 6 → m.n i < 18446744073709551616) (hl : Tx w (.slice a m.l.length c) m.l) :
    Calls Try.prog 14 #[.agg (msgA m (.slice a m.l.length c)), .int .i64 ver] w fun e w' => e = .returned (.bool true) ∧ Grew w w' := by
  obtain ⟨W0, hW0⟩ : ∃ W0, W0 = w.alloc (.cells (msgA m (.slice a m.l.length c)) 57) := ⟨_, rfl⟩
  have g0 : Grew w W0 := by rw [hW0]; exact grew_alloc _ _
  have k0 : Blk W0 w.heap.size 57 (msgA m (.slice a m.l.length c)) := by rw [hW0]; exact Blk.new _ _ _
  have G0 := Lib.hid g0
  have K0 := Lib.hid k0
  have HL := Lib.hid hl
  have KA := Lib.hid awakeBytes_any
  have KS := Lib.hid (fun W g => small9_any m (.slice a m.l.length c) W (hl.grew (g : Grew w W)))
  have HSM := Lib.hid (fun h => small_ok (m := m) h hn)
  simp only [msgA] at hW0 KS ⊢
  clear g0 k0 hl hn
  go_enter Try.func14, Try.ntmps14
  go_wp2_with fail
  rw [← hW0]
  refine (KA.out _).mono ?_
  rintro e w1 ⟨rfl, g1⟩
  have h1 := G0.out.trans g1
  have k1 := K0.out.grew g1
  have H1 := Lib.hid h1
  have K1 := Lib.hid k1
  obtain ⟨c0, c1', c2, c3, c4, c5, c6, c7, c8, c9⟩ := mcells k1
  clear hW0 G0 K0 g1 h1 k1
  go_wp2_with fail
  refine (KS.out _ H1.out).mono ?_
  cases hsm : smallB m with
  | false =>
    rintro e w2 ⟨rfl, g2⟩
    go_wp2
    go_ret
    exact ⟨rfl, H1.out.trans g2⟩
  | true =>
    have hm := HSM.out hsm
    have KB := Lib.hid (fun W g => ebytes_any m a c ver W hm (HL.out.grew (g : Grew w W)))
    have KZ := Lib.hid (fun W g => esize_any m a c ver W hm (HL.out.grew (g : Grew w W)))
    have KC := Lib.hid (fun W g => vcheck_any m (.slice a m.l.length c) ver W (okE_okM hm) (HL.out.grew (g : Grew w W)) (by have := hm.2.2.1; omega))
    have KO := Lib.hid (fun W => of_any m.k ver W)
    have HM := Lib.hid hm
    have hle := ofKind_le m.k ver
    have hnm := fun r (h : r ∈ ofKind m.k (rowsIn ver)) => nm_ok h
    generalize ofKind m.k (rowsIn ver) = L at KB KZ KC KO hle hnm
    have HNM := Lib.hid hnm
    have HLE := Lib.hid hle
    simp only [msgA] at KB KZ KC
    clear hm hle hnm hsm
    rintro e w2 ⟨rfl, g2⟩
    have h2 := H1.out.trans g2
    have k2 := K1.out.grew g2
    have H2 := Lib.hid h2
    have K2 := Lib.hid k2
    clear c0 c1' c2 c3 c4 c5 c6 c7 c8 c9 h2 g2
    obtain ⟨c0, c1', c2, c3, c4, c5, c6, c7, c8, c9⟩ := mcells k2
    clear k2
    go_wp2_with fail
    refine (KB.out _ H2.out).mono ?_
    obtain ⟨E, hE⟩ : ∃ E, E = chkM m L := ⟨_, rfl⟩
    obtain ⟨B, hB⟩ : ∃ B, B = msgB m L := ⟨_, rfl⟩
    have HE := Lib.hid hE
    have HB := Lib.hid hB
    rw [← hE] at KC ⊢
    rw [← hB] at KZ ⊢
    simp only [fltV] at KC ⊢
    clear hE hB
    rintro e w3 ⟨v3, rfl, ho3, g3⟩
    obtain ⟨a3, c3', rfl⟩ := bs_len (Sl.of_own ho3)
    obtain ⟨w4, hw4⟩ : ∃ w4, w4 = w3.alloc (.cells #[.int .i64 (E.1 : Nat), .int .i64 (E.2 : Nat)] 27) := ⟨_, rfl⟩
    have g4 : Grew w3 w4 := by rw [hw4]; exact grew_alloc _ _
    have kf : Blk w4 w3.heap.size 27 #[.int .i64 (E.1 : Nat), .int .i64 (E.2 : Nat)] := by rw [hw4]; exact Blk.new _ _ _
    have H4 := Lib.hid ((H2.out.trans g3).trans g4)
    have K4 := Lib.hid ((K2.out.grew g3).grew g4)
    have KF := Lib.hid kf
    have HO4 := Lib.hid (own_grew ho3 g4)
    clear c0 c1' c2 c3 c4 c5 c6 c7 c8 c9 ho3 g3 g4 kf
    go_upto_region 6 with (fail)
    rw [← hw4]
    clear hw4
    obtain ⟨f0, f1, -, -⟩ := cells_of KF.out
    by_cases he : E.1 ≠ 0
    · have hne : ((E.1 : Int) != 0) = true := by simp; omega
      clear he
      go_upto_region 7 with (fail)
      have K4u := K4
      simp only [msgA] at K4u
      refine wp_region_grew w4 (Below.refl _ _) (by kernel_rfl) (by kernel_rfl) ?_
      repeat (
        refine BigFrame.wpQuiet_want (by kernel_rfl) (fun K hK => ?_)
        first
          | (refine q_row 57 _ rfl w.heap.size rfl 57 _ _ K4u.out Try.underlying57 rfl (by kernel_rfl) (hK _ ?_))
          | (refine q_row 27 _ rfl w3.heap.size rfl 27 _ _ KF.out Try.underlying27 rfl (by kernel_rfl) (hK _ ?_))
          | (apply Exists.intro
             apply And.intro
             · intro W hW
               go_simp
               first
                 | done
                 | rfl
                 | with_reducible exact q_calls hW (KC.out W (H4.out.trans hW.out)) (fun _ _ h => h)
             refine hK _ ?_)
        clear hK K
        simp only [Act.put, List.setIfInBounds_toArray, List.set_cons_zero, List.set_cons_succ])
      refine wpQuiet_nil ?_
      intro w5 g5
      go_wp2
      go_ret
      exact ⟨rfl, H4.out.trans g5.out⟩
    · have hne : ((E.1 : Int) != 0) = false := by simp; omega
      have hmb : B = (L.map (fR m)).flatten := by rw [HB.out]; unfold msgB; rw [if_neg (by rw [← HE.out]; exact he)]
      have HMB := Lib.hid hmb
      obtain ⟨c0, c1', c2, c3, c4, c5, c6, c7, c8, c9⟩ := mcells K4.out
      clear he hmb
      go_wp2_with fail
      refine (KO.out _).mono ?_
      rintro e w5 ⟨v5, rfl, r5, g5⟩
      obtain ⟨a5, c5', rfl, -, -, -, -⟩ := (Sl.of_own r5).open
      have H5 := Lib.hid (H4.out.trans g5)
      have K5 := Lib.hid (K4.out.grew g5)
      have HO5 := Lib.hid (own_grew HO4.out g5)
      have R5 := Lib.hid r5
      clear c0 c1' c2 c3 c4 c5 c6 c7 c8 c9 f0 f1 r5 g5
      have hli : (L.length : Int) ≤ 40 := by have := HLE.out; omega
      go_wp2
      go_loopw [7, 10] (fun vo i wr => ∃ k : Nat, k ≤ L.length ∧ i = .int .i64 k ∧ RowKit.Hid (((L.take k).map (fR m)).flatten.length ≤ k * 8212000) ∧ OwnB wr w5.heap.size vo ((L.take k).map (fR m)).flatten ∧ Grew w5 wr) (fun _ i _ => L.length - (intOf i).toNat)
      case atStart => exact ⟨0, Nat.zero_le _, rfl, Lib.hid (Nat.zero_le _), ownB_nil _ _, Below.refl _ _⟩
      case round =>
        obtain ⟨k, hk, rfl, hpl, ho, hG⟩ := hrel
        obtain ⟨a9, n9, c9, rfl, hn9⟩ := bs_shape (Sl.of_own ho)
        have HO := Lib.hid ho
        have HGR := Lib.hid hG
        clear ho
        by_cases hlt : k < L.length
        · obtain ⟨a', c', e, -, -, -, hcc⟩ := (Sl.of_own R5.out).open
          cases e
          obtain ⟨b, o, rfl, hcl5⟩ := hcc (by omega)
          have hcl := fun j u h => (below_ext hG) _ _ (hcl5 j u h)
          have hf := fun j hj => flat_get (f := specV) (k := 3) (fun _ => rfl) L k hlt j hj
          have x0 := hcl _ _ (hf 0 (by omega))
          have x1 := hcl _ _ (hf 1 (by omega))
          have x2 := hcl _ _ (hf 2 (by omega))
          simp only [Nat.add_zero, ← Nat.add_assoc] at x0 x1 x2
          have z0 := hcl5 _ _ (hf 0 (by omega))
          have z1 := hcl5 _ _ (hf 1 (by omega))
          have z2 := hcl5 _ _ (hf 2 (by omega))
          simp only [Nat.add_zero, ← Nat.add_assoc] at z0 z1 z2
          have hnx : ((L.take (k + 1)).map (fR m)).flatten = ((L.take k).map (fR m)).flatten ++ fR m L[k] := by rw [List.take_succ_eq_append_getElem hlt, List.map_append, List.flatten_append]; show _ ++ (_ ++ []) = _; rw [List.append_nil]
          have hnm : ((L[k]).2.1 : Int) ≤ 9223372036854775807 := HNM.out _ (List.getElem_mem hlt)
          generalize L[k] = r at x0 x1 x2 z0 z1 z2 hnx hnm
          obtain ⟨kd, nm, ty, sl, si⟩ := r
          have HXX : RowKit.Hid (∀ W, Grew w5 W → W.cell? ⟨b, o + k * 3, none⟩ = some (.int .i64 nm) ∧ W.cell? ⟨b, o + k * 3 + 1, none⟩ = some (.int .i64 ty) ∧ W.cell? ⟨b, o + k * 3 + 2, none⟩ = some (.int .i64 sl)) := Lib.hid fun W g => ⟨(below_ext g) _ _ z0, (below_ext g) _ _ z1, (below_ext g) _ _ z2⟩
          clear z0 z1 z2 hcl5
          have KFd := Lib.hid (fun W g => efield_any m a c nm ty sl W HM.out ⟨by omega, hnm⟩ (HL.out.grew (g : Grew w W)))
          have HLN := Lib.hid (fieldF_len (t := (ty : Int)) (sl := (sl : Int)) HM.out ⟨by omega, hnm⟩)
          have HNX := Lib.hid hnx
          obtain ⟨c0, c1', c2, c3, c4, c5, c6, c7, c8, c9'⟩ := mcells (K5.out.grew hG)
          have zi : (k : Int) < (L.length : Int) := by omega
          simp only [msgA] at KFd
          clear hcl hf hcc hnx hnm hG
          go_upto_region 13 with (fail)
          have HX : RowKit.Hid (∀ W, Grew w5 W → W.cell? ⟨b, o + k * 3, none⟩ = some (.int .i64 nm) ∧ W.cell? ⟨b, o + k * 3 + 1, none⟩ = some (.int .i64 ty) ∧ W.cell? ⟨b, o + k * 3 + 2, none⟩ = some (.int .i64 sl)) := HXX
          clear c0 c1' c2 c3 c4 c5 c6 c7 c8 c9' x0 x1 x2
          refine wp_region_held_drew (S := fun W => Grew w5 W) (by kernel_rfl) (Grew.trans HGR.out (Drew.grew ⟨1, rfl⟩)) (fun hHeld => ?_)
          refine wpAnyH_take (i := 0) (oi := _) (v := ?_) rfl (by kernel_rfl) (by kernel_rfl) (by kernel_rfl) (fun _ _ _ h => h) (Or.inl ⟨by rfl, ?_⟩) (by assumption) ?_
          rotate_left
          · (intro W hSw; obtain ⟨c0, c1', c2, c3, c4, c5, c6, c7, c8, c9'⟩ := mcells (K5.out.grew hSw); have y0 := HX.out W hSw; obtain ⟨y0, y1, y2⟩ := y0; go_simp; try with_reducible rfl)
          simp only [Act.put, List.setIfInBounds_toArray]
          refine wpAnyH_take (i := 1) (oi := _) (v := ?_) rfl (by kernel_rfl) (by kernel_rfl) (by kernel_rfl) (fun _ _ _ h => h) (Or.inl ⟨by rfl, ?_⟩) (by assumption) ?_
          rotate_left
          · (intro W hSw; obtain ⟨c0, c1', c2, c3, c4, c5, c6, c7, c8, c9'⟩ := mcells (K5.out.grew hSw); have y0 := HX.out W hSw; obtain ⟨y0, y1, y2⟩ := y0; go_simp; try with_reducible rfl)
          simp only [Act.put]
          refine wpAnyH_take (i := 2) (oi := _) (v := ?_) rfl (by kernel_rfl) (by kernel_rfl) (by kernel_rfl) (fun _ _ _ h => h) (Or.inl ⟨by rfl, ?_⟩) (by assumption) ?_
          rotate_left
          · (intro W hSw; obtain ⟨c0, c1', c2, c3, c4, c5, c6, c7, c8, c9'⟩ := mcells (K5.out.grew hSw); have y0 := HX.out W hSw; obtain ⟨y0, y1, y2⟩ := y0; go_simp; try with_reducible rfl)
          simp only [Act.put]
          refine wpAnyH_take (i := 3) (oi := _) (v := ?_) rfl (by kernel_rfl) (by kernel_rfl) (by kernel_rfl) (fun _ _ _ h => h) (Or.inl ⟨by rfl, ?_⟩) (by assumption) ?_
          rotate_left
          · (intro W hSw; obtain ⟨c0, c1', c2, c3, c4, c5, c6, c7, c8, c9'⟩ := mcells (K5.out.grew hSw); have y0 := HX.out W hSw; obtain ⟨y0, y1, y2⟩ := y0; go_simp; try with_reducible rfl)
          simp only [Act.put]
          refine wpAnyH_take (i := 4) (oi := _) (v := ?_) rfl (by kernel_rfl) (by kernel_rfl) (by kernel_rfl) (fun _ _ _ h => h) (Or.inl ⟨by rfl, ?_⟩) (by assumption) ?_
          rotate_left
          · (intro W hSw; obtain ⟨c0, c1', c2, c3, c4, c5, c6, c7, c8, c9'⟩ := mcells (K5.out.grew hSw); have y0 := HX.out W hSw; obtain ⟨y0, y1, y2⟩ := y0; go_simp; try with_reducible rfl)
          simp only [Act.put]
          refine wpAnyH_take (i := 5) (oi := _) (v := ?_) rfl (by kernel_rfl) (by kernel_rfl) (by kernel_rfl) (fun _ _ _ h => h) (Or.inl ⟨by rfl, ?_⟩) (by assumption) ?_
          rotate_left
          · (intro W hSw; obtain ⟨c0, c1', c2, c3, c4, c5, c6, c7, c8, c9'⟩ := mcells (K5.out.grew hSw); have y0 := HX.out W hSw; obtain ⟨y0, y1, y2⟩ := y0; go_simp; try with_reducible rfl)
          simp only [Act.put]
          refine wpAnyH_ready (rs := [6]) (by kernel_rfl) (by simp) ?_
          refine AllReadyH.cons (o := _) rfl (fun K hK => ?_) AllReadyH.nil
          go_simp
          have gd : Grew wr wr.drew := Drew.grew ⟨1, rfl⟩
          refine (KFd.out _ ((H5.out.trans HGR.out).trans gd)).mono ?_
          have HLN2 := Lib.hid (show (fR m (kd, nm, ty, sl, si)).length ≤ 8212000 from HLN.out)
          rintro e w6 ⟨v6, rfl, ho6, g6⟩
          replace ho6 : OwnB w6 _ v6 (fR m (kd, nm, ty, sl, si)) := ho6
          obtain ⟨a6, n6, c6, rfl, hn6⟩ := bs_shape (Sl.of_own ho6)
          generalize fR m (kd, nm, ty, sl, si) = X at HLN2 HNX ho6
          have HO6 := Lib.hid ho6
          have HOA := Lib.hid (own_grew HO.out (gd.trans g6))
          have H6 := Lib.hid ((HGR.out.trans gd).trans g6)
          have hs6 := H6.out.size
          have HSZ := Lib.hid hs6
          clear ho6 g6 gd KFd HLN hs6 hHeld
          go_simp
          refine hK.out _ _ H6.out (fun _ => ?_)
          clear hK K
          (try simp only [Act.put, List.setIfInBounds_toArray, List.set_cons_zero, List.set_cons_succ])
          refine wpAnyH_ready (rs := [7]) (by kernel_rfl) (by simp) ?_
          refine AllReadyH.cons (o := _) rfl (fun K hK => ?_) AllReadyH.nil
          refine step_of_list ?_
          refine wpList_push2 rfl _ _ rfl w5.heap.size (.slice a9 n9 c9) ((L.take k).map (fR m)).flatten rfl HOA.out (.slice a6 n6 c6) rfl X (Sl.of_own HO6.out) (by have := hpl.out; have := HLN2.out; have := HLE.out; omega) HSZ.out ?_
          intro v' w7 hown7 hB7 hgb _
          have hg7 : Grew w5 w7 := Below.trans H6.out hB7
          refine hK.out _ _ hg7 (fun _ => ?_)
          clear hK K
          (try simp only [Act.put, List.setIfInBounds_toArray])
          refine wpAnyH_take (i := 8) (oi := _) (v := ?_) rfl (by kernel_rfl) (by kernel_rfl) (by kernel_rfl) (fun _ _ _ h => h) (Or.inl ⟨by rfl, ?_⟩) (by assumption) ?_
          rotate_left
          · (intro W hSw; go_simp; try with_reducible rfl)
          simp only [Act.put]
          refine wpAnyH_done (by kernel_rfl) ?_ _
          go_wp2
          refine ⟨⟨k + 1, by omega, by go_num, Lib.hid (by rw [HNX.out, List.length_append]; have := hpl.out; have := HLN2.out; omega), by rw [HNX.out]; exact hown7, hg7⟩, ?_⟩
          simp [intOf]; omega
        · obtain rfl : k = L.length := by omega
          have ho9 := HO.out
          rw [List.take_length, ← HMB.out] at ho9
          have KEQ := Lib.hid (same_any B B _ _ wr (Sl.of_own ho9) (Sl.of_own (own_grew HO5.out HGR.out)))
          rw [beq_self_eq_true] at KEQ
          have KSZ := Lib.hid (fun n => KZ.out (wr.drewN n) ((H5.out.trans HGR.out).trans (Drew.grew ⟨n, rfl⟩)))
          clear ho9 hG
          go_wp2_with fail
          refine KEQ.out.mono ?_
          rintro e w6 ⟨rfl, nq, rfl⟩
          obtain ⟨c0, c1', c2, c3, c4, c5, c6, c7, c8, c9'⟩ := mcells ((K5.out.grew HGR.out).drewN nq)
          go_wp2_with fail
          refine (KSZ.out nq).mono ?_
          rintro e w6 ⟨rfl, g6⟩
          have G6 := Lib.hid (((H5.out.trans HGR.out).trans (Drew.grew ⟨nq, rfl⟩)).trans g6)
          clear c0 c1' c2 c3 c4 c5 c6 c7 c8 c9' g6
          go_wp2
          go_ret
          exact ⟨ret_bool (by simp), G6.out⟩
end Go.Proofs.Ytgoaijpckckdnaa
