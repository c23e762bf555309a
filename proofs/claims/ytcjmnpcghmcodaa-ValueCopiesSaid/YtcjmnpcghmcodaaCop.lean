/- The law ValueCopies returns true: its walk. -/
import Derived.Test.YtcjmnpcghmcodaaVaa
import Derived.Test.YtcjmnpcghmcodaaGrt
namespace Go.Proofs.Ytcjmnpcghmcodaa
open Go Go.RowKit Go.Shelf

/-- what the two copies leave: each lies in a block of its own, its list too -/
def CopR (m cl : Msg) (w wl : World) (x7 x8 : Value) (wx : World) : Prop :=
  ∃ (p7 p8 : Nat) (v d : Value), x7 = .pointer (some ⟨p7, 0, none⟩) ∧ x8 = .pointer (some ⟨p8, 0, none⟩) ∧ Blk wx p7 27 (msgA m v) ∧ Blk wx p8 27 (msgA cl d) ∧ OwnT wx w.heap.size v m.l ∧ Tx wx d cl.l ∧ Grew wl wx
theorem own_row {w : World} {base : Nat} {v : Value} {l : List ByteArray} (h : OwnT w base v l) {p : Nat} {cs new : Array Value} (hb : Blk w p 27 cs) : OwnT (w.setRow p new) base v l :=
  own_block h fun g hg => setRow_other _ _ _ _ (fun e => blk_ne_row hb h (by decide) (by rw [hg, e]))
theorem tx_own {w : World} {base : Nat} {v : Value} {l : List ByteArray} (h : OwnT w base v l) : Tx w v l := Sl.of_own h
theorem blk_row {w : World} {p q : Nat} {t u : TypeId} {cs ds new : Array Value} (h : Blk w p t cs) (_ : Blk w q u ds) (hne : p ≠ q) : Blk (w.setRow q new) p t cs := (setRow_other _ _ _ _ hne).trans h
theorem msgA_all (m : Msg) {w : World} {v : Value} {l : List ByteArray} (h : Tx w v l) : (msgA m v).all (·.oneCell') = true := by
  obtain ⟨a, c, rfl⟩ := tx_len h
  exact msgA_one _ _ _ _
theorem small_mem {m : Msg} (h : smallB m = true) : ∀ s ∈ m.l, s.size ≤ 200 := by
  unfold smallB at h
  simp only [Bool.and_eq_true, List.all_eq_true, decide_eq_true_eq] at h
  exact h.2
theorem sameB_rfl' (m : Msg) : sameB m m = true := by unfold sameB; simp
theorem ld_row {P : Program} {o : Oper} {a : Act} {W : World} {ty : TypeId} {x : Operand} (ho : o.op = .load ty x) (g : Nat) (hx : a.eval x = .pointer (some ⟨g, 0, none⟩)) (t : TypeId) (cs : Array Value) {d : TypeDesc} (hb : Blk W g t cs)
    (hu : P.underlying ty = some d) (hd : (match d with | .struct _ | .array _ _ => true | _ => false) = true) (hi : (P.info? ty).map (·.size) = some cs.size) : (execOp a.eval o).run P W = .ok (.value (.agg cs)) W := by
  have hg : W.heap[g]? = some (.cells cs t (0, 0)) := hb
  unfold execOp
  simp only [ho, hx, Instr.loadAt, Instr.sureAddr, Sem.run_bind, Sem.run_pure, Result.andThen_ok, run_loadVar_row W g t ty cs (0, 0) d hg hu hd hi]
set_option maxRecDepth 100000 in
set_option maxHeartbeats 8000000 in
theorem copies_walk (m n : Msg) (v u : Value) (ver : Int) (w : World) (hm : MsgR w v m) (hn : MsgR w u n) :
    Calls Try.prog 5 #[v, u, .int .i64 ver] w fun e w' => e = .returned (.bool true) ∧ Grew w w' := by
  obtain ⟨lv, rfl, hl, ho⟩ := hm
  obtain ⟨lu, rfl, hu, -⟩ := hn
  obtain ⟨a, c, rfl⟩ := tx_len hl
  obtain ⟨b, d0, rfl⟩ := tx_len hu
  obtain ⟨W0, hW0⟩ : ∃ W0, W0 = (w.alloc (.cells (msgA m (.slice a m.l.length c)) 27)).alloc (.cells (msgA n (.slice b n.l.length d0)) 27) := ⟨_, rfl⟩
  have g0 : Grew w W0 := by rw [hW0]; exact grew2 _ _ _
  have k1 : Blk W0 w.heap.size 27 (msgA m (.slice a m.l.length c)) := by rw [hW0]; exact (Blk.new _ _ _).alloc _
  have k2 : Blk W0 (w.heap.size + 1) 27 (msgA n (.slice b n.l.length d0)) := by rw [hW0]; exact Blk.new2 _ _ _ _
  have K1 := Lib.hid k1
  have K2 := Lib.hid k2
  have G0 := Lib.hid g0
  have HL := Lib.hid hl
  have HU := Lib.hid hu
  have KS := Lib.hid (fun W g => small9_any m (.slice a m.l.length c) W (hl.grew (g : Grew w W)))
  have KT := Lib.hid (fun W g => small9_any n (.slice b n.l.length d0) W (hu.grew (g : Grew w W)))
  have KP := Lib.hid (fun W g h => copy_any m (.slice a m.l.length c) W (hl.grew (g : Grew w W)) h)
  have KCL := Lib.hid (fun W g h => clean_any m (.slice a m.l.length c) ver W (hl.grew (g : Grew w W)) h)
  simp only [msgA] at hW0 KS KT KP KCL K1 K2 ⊢
  clear k1 k2 g0 hl hu ho
  go_enter Try.func5, Try.ntmps5
  go_wp2_with fail
  rw [← hW0]
  refine (live09_any _).mono ?_
  rintro e w1 ⟨rfl, g1⟩
  have K3 := Lib.hid (K1.out.grew g1)
  have K4 := Lib.hid (K2.out.grew g1)
  have G1 := Lib.hid (G0.out.trans g1)
  clear hW0 K1 K2 G0 g1
  obtain ⟨c0, c1, c2, c3, c4, c5, c6, c7, c8, c9⟩ := msg_cells K3.out
  go_wp2_with fail
  refine (KS.out _ G1.out).mono ?_
  rintro e w2 ⟨rfl, g2⟩
  have K5 := Lib.hid (K3.out.grew g2)
  have K6 := Lib.hid (K4.out.grew g2)
  have G2 := Lib.hid (G1.out.trans g2)
  clear K3 K4 G1 g2 c0 c1 c2 c3 c4 c5 c6 c7 c8 c9
  cases hs : smallB m with
  | false =>
    go_wp2
    go_ret
    exact ⟨rfl, G2.out⟩
  | true =>
  have HLN := Lib.hid (show m.l.length ≤ 1000000000 from by have := small_len hs; omega)
  have HSM := Lib.hid (small_mem hs)
  clear hs
  obtain ⟨c0, c1, c2, c3, c4, c5, c6, c7, c8, c9⟩ := msg_cells K6.out
  go_wp2_with fail
  refine (KT.out _ G2.out).mono ?_
  rintro e w3 ⟨rfl, g3⟩
  have K7 := Lib.hid (K5.out.grew g3)
  have K8 := Lib.hid (K6.out.grew g3)
  have G3 := Lib.hid (G2.out.trans g3)
  clear K5 K6 G2 g3 c0 c1 c2 c3 c4 c5 c6 c7 c8 c9
  cases hs : smallB n with
  | false =>
    go_wp2
    go_ret
    exact ⟨rfl, G3.out⟩
  | true =>
  clear hs
  go_upto_region 5 with (fail)
  go_cut [7, 8] from 20 (fun x7 x8 wx => CopR m (cleanM m (ofKind m.k (rowsIn ver))) w w3 x7 x8 wx)
  case first =>
    have kb0 := K7.out.grew (Drew.grew (⟨1, rfl⟩ : Drew w3 w3.drew))
    have gW0 : RowKit.Hid (Grew w3 w3.drew) := Lib.hid (Drew.grew ⟨1, rfl⟩)
    refine wp_region_held_drew (S := fun W => Blk W w.heap.size 27 #[.int .u8 m.k, .int .u64 (m.n 0), .int .u64 (m.n 1), .int .u64 (m.n 2), .int .u64 (m.n 3), .int .u64 (m.n 4), .int .u64 (m.n 5), .string (m.s 0), .string (m.s 1), .slice a m.l.length c]) (by kernel_rfl) kb0 (fun hHeld => ?_)
    refine wpAnyH_take (i := 0) (oi := ⟨some 20, .load 27 (.tmp 3), _, _, _, _⟩) (v := .agg #[.int .u8 m.k, .int .u64 (m.n 0), .int .u64 (m.n 1), .int .u64 (m.n 2), .int .u64 (m.n 3), .int .u64 (m.n 4), .int .u64 (m.n 5), .string (m.s 0), .string (m.s 1), .slice a m.l.length c]) rfl (by kernel_rfl) (by kernel_rfl) (by kernel_rfl) (fun _ _ _ h => h) (Or.inl ⟨by rfl, fun W hW => ld_row rfl w.heap.size rfl 27 _ hW Try.underlying27 rfl (by kernel_rfl)⟩) kb0 ?_
    simp only [Act.put, List.setIfInBounds_toArray, List.set_cons_zero, List.set_cons_succ]
    refine wpAnyH_take (i := 2) (oi := ⟨some 22, .load 27 (.tmp 3), _, _, _, _⟩) (v := .agg #[.int .u8 m.k, .int .u64 (m.n 0), .int .u64 (m.n 1), .int .u64 (m.n 2), .int .u64 (m.n 3), .int .u64 (m.n 4), .int .u64 (m.n 5), .string (m.s 0), .string (m.s 1), .slice a m.l.length c]) rfl (by kernel_rfl) (by kernel_rfl) (by kernel_rfl) (fun _ _ _ h => h) (Or.inl ⟨by rfl, fun W hW => ld_row rfl w.heap.size rfl 27 _ hW Try.underlying27 rfl (by kernel_rfl)⟩) kb0 ?_
    simp only [Act.put, List.setIfInBounds_toArray, List.set_cons_zero, List.set_cons_succ]
    refine wpAnyH_take (i := 3) (oi := ⟨some 23, _, _, _, _, _⟩) (v := .int .i64 ver) rfl (by kernel_rfl) (by kernel_rfl) (by kernel_rfl) (fun _ _ _ h => h) (Or.inl ⟨by rfl, fun W hW => by kernel_rfl⟩) kb0 ?_
    simp only [Act.put, List.setIfInBounds_toArray, List.set_cons_zero, List.set_cons_succ]
    have HWZ := Lib.hid (K7.out.lt)
    refine wpAnyH_ready (rs := [1, 5, 6]) (by kernel_rfl) (by simp) ?_
    refine AllReadyH.cons (o := _) rfl (fun K hK => ?_) ?_
    · skip
      go_simp
      refine (KP.out _ (G3.out.trans gW0.out) HLN.out).mono ?_
      rintro e1 wa1 ⟨v1, rfl, o1, g1, -⟩
      have own1 := Lib.hid (own_mono (base' := w.heap.size) o1 (Nat.le_trans G3.out.size gW0.out.size))
      have gW1 := Lib.hid (Grew.trans gW0.out g1)
      have kb1 := kb0.grew g1
      clear g1 o1
      refine hK.out _ _ kb1 (fun _ => ?_)
      clear hK K
      (try simp only [Act.put, List.setIfInBounds_toArray, List.set_cons_zero, List.set_cons_succ])
      refine wpAnyH_ready (rs := [4, 5, 6]) (by kernel_rfl) (by simp) ?_
      refine AllReadyH.cons (o := _) rfl (fun K hK => ?_) ?_
      · skip
        go_simp
        refine (KCL.out _ (G3.out.trans gW1.out) HLN.out).mono ?_
        rintro e2 wa2 ⟨v2, rfl, o2, g2, -⟩
        have own2 := Lib.hid (own_mono (base' := w.heap.size) o2 (Nat.le_trans G3.out.size gW1.out.size))
        have gW2 := Lib.hid (Grew.trans gW1.out g2)
        have kb2 := kb1.grew g2
        have own1_2 := Lib.hid (own_grew own1.out g2)
        clear g2 o2
        refine hK.out _ _ kb2 (fun _ => ?_)
        clear hK K
        (try simp only [Act.put, List.setIfInBounds_toArray, List.set_cons_zero, List.set_cons_succ])
        refine wpAnyH_ready (rs := [5, 6]) (by kernel_rfl) (by simp) ?_
        refine AllReadyH.cons (o := _) rfl (fun K hK => ?_) ?_
        · skip
          have g3 := grew_alloc wa2 (.cells #[.int .u8 0, .int .u64 0, .int .u64 0, .int .u64 0, .int .u64 0, .int .u64 0, .int .u64 0, .string ⟨#[]⟩, .string ⟨#[]⟩, .slice none 0 0] 27)
          have new3 : RowKit.Hid (Blk (wa2.alloc (.cells #[.int .u8 0, .int .u64 0, .int .u64 0, .int .u64 0, .int .u64 0, .int .u64 0, .int .u64 0, .string ⟨#[]⟩, .string ⟨#[]⟩, .slice none 0 0] 27)) (wa2.heap.size) 27 #[.int .u8 0, .int .u64 0, .int .u64 0, .int .u64 0, .int .u64 0, .int .u64 0, .int .u64 0, .string ⟨#[]⟩, .string ⟨#[]⟩, .slice none 0 0]) := Lib.hid (Blk.at (by simp))
          have gW3 := Lib.hid (Grew.trans gW2.out g3)
          have kb3 := kb2.grew g3
          have lt3 := Lib.hid (show w3.heap.size ≤ wa2.heap.size from by have := gW2.out.size; (try simp at this); omega)
          go_simp
          have own1_3 := Lib.hid (own_grew own1_2.out g3)
          have own2_3 := Lib.hid (own_grew own2.out g3)
          clear g3
          refine hK.out _ _ kb3 (fun _ => ?_)
          clear hK K
          (try simp only [Act.put, List.setIfInBounds_toArray, List.set_cons_zero, List.set_cons_succ])
          refine wpAnyH_ready (rs := [6]) (by kernel_rfl) (by simp) ?_
          refine AllReadyH.cons (o := _) rfl (fun K hK => ?_) ?_
          · skip
            have g4 := grew_alloc (wa2.alloc (.cells #[.int .u8 0, .int .u64 0, .int .u64 0, .int .u64 0, .int .u64 0, .int .u64 0, .int .u64 0, .string ⟨#[]⟩, .string ⟨#[]⟩, .slice none 0 0] 27)) (.cells #[.int .u8 0, .int .u64 0, .int .u64 0, .int .u64 0, .int .u64 0, .int .u64 0, .int .u64 0, .string ⟨#[]⟩, .string ⟨#[]⟩, .slice none 0 0] 27)
            have new4 : RowKit.Hid (Blk ((wa2.alloc (.cells #[.int .u8 0, .int .u64 0, .int .u64 0, .int .u64 0, .int .u64 0, .int .u64 0, .int .u64 0, .string ⟨#[]⟩, .string ⟨#[]⟩, .slice none 0 0] 27)).alloc (.cells #[.int .u8 0, .int .u64 0, .int .u64 0, .int .u64 0, .int .u64 0, .int .u64 0, .int .u64 0, .string ⟨#[]⟩, .string ⟨#[]⟩, .slice none 0 0] 27)) (wa2.heap.size + 1) 27 #[.int .u8 0, .int .u64 0, .int .u64 0, .int .u64 0, .int .u64 0, .int .u64 0, .int .u64 0, .string ⟨#[]⟩, .string ⟨#[]⟩, .slice none 0 0]) := Lib.hid (Blk.at (by simp))
            have gW4 := Lib.hid (Grew.trans gW3.out g4)
            have kb4 := kb3.grew g4
            have lt4 := Lib.hid (show w3.heap.size ≤ wa2.heap.size + 1 from by have := gW3.out.size; (try simp at this); omega)
            go_simp
            have ne4 := Lib.hid (show (wa2.heap.size) ≠ wa2.heap.size + 1 from by have := (new3).out.lt; (try simp at this); omega)
            have own1_4 := Lib.hid (own_grew own1_3.out g4)
            have own2_4 := Lib.hid (own_grew own2_3.out g4)
            have new3_4 := Lib.hid ((new3).out.grew g4)
            clear g4
            refine hK.out _ _ kb4 (fun _ => ?_)
            clear hK K
            (try simp only [Act.put, List.setIfInBounds_toArray, List.set_cons_zero, List.set_cons_succ])
            refine wpAnyH_ready (rs := [7]) (by kernel_rfl) (by simp) ?_
            refine AllReadyH.cons (o := _) rfl (fun K hK => ?_) AllReadyH.nil
            refine wp_store_row 27 _ _ rfl (wa2.heap.size) (msgA m v1) rfl rfl 27 _ new3_4.out (by kernel_rfl) rfl (msgA_all _ (tx_own own1_4.out)) ?_
            have hne : (wa2.heap.size + 1) ≠ (wa2.heap.size) := (Ne.symm ne4.out)
            have hb7 : w.heap.size ≠ (wa2.heap.size) := (by have := HWZ.out; have := lt3.out; omega)
            have hb8 : w.heap.size ≠ (wa2.heap.size + 1) := (by have := HWZ.out; have := lt4.out; omega)
            have k8' := blk_row (new := msgA m v1) new4.out new3_4.out hne
            have o1' := own_row (new := msgA m v1) own1_4.out new3_4.out
            have t4' := own_row (new := msgA m v1) own2_4.out new3_4.out
            have k7' := new3_4.out.row (msgA m v1)
            have kb' := blk_row (new := msgA m v1) kb4 new3_4.out hb7
            have gW' := below_setRow (gW4.out) (show w3.heap.size ≤ (wa2.heap.size) from lt3.out) (msgA m v1)
            refine hK.out _ _ kb' (fun _ => ?_)
            clear hK K
            (try simp only [Act.put, List.setIfInBounds_toArray])
            refine wpAnyH_ready (rs := [8]) (by kernel_rfl) (by simp) ?_
            refine AllReadyH.cons (o := _) rfl (fun K hK => ?_) AllReadyH.nil
            refine wp_store_row 27 _ _ rfl (wa2.heap.size + 1) (msgA (cleanM m (ofKind m.k (rowsIn ver))) v2) rfl rfl 27 _ k8' (by kernel_rfl) rfl (msgA_all _ (tx_own t4')) ?_
            refine hK.out _ _ (blk_row kb' k8' hb8) (fun _ => ?_)
            clear hK K
            (try simp only [Act.put])
            refine wpAnyH_done (by kernel_rfl) ?_ _
            go_wp2_with fail
            go_meet
            exact ⟨(wa2.heap.size), (wa2.heap.size + 1), v1, v2, rfl, rfl, blk_row k7' k8' (Ne.symm hne), k8'.row _, own_row o1' k8', tx_own (own_row t4' k8'), below_setRow gW' lt4.out _⟩
          exact AllReadyH.nil
        refine AllReadyH.cons (o := _) rfl (fun K hK => ?_) ?_
        · skip
          have g5 := grew_alloc wa2 (.cells #[.int .u8 0, .int .u64 0, .int .u64 0, .int .u64 0, .int .u64 0, .int .u64 0, .int .u64 0, .string ⟨#[]⟩, .string ⟨#[]⟩, .slice none 0 0] 27)
          have new5 : RowKit.Hid (Blk (wa2.alloc (.cells #[.int .u8 0, .int .u64 0, .int .u64 0, .int .u64 0, .int .u64 0, .int .u64 0, .int .u64 0, .string ⟨#[]⟩, .string ⟨#[]⟩, .slice none 0 0] 27)) (wa2.heap.size) 27 #[.int .u8 0, .int .u64 0, .int .u64 0, .int .u64 0, .int .u64 0, .int .u64 0, .int .u64 0, .string ⟨#[]⟩, .string ⟨#[]⟩, .slice none 0 0]) := Lib.hid (Blk.at (by simp))
          have gW5 := Lib.hid (Grew.trans gW2.out g5)
          have kb5 := kb2.grew g5
          have lt5 := Lib.hid (show w3.heap.size ≤ wa2.heap.size from by have := gW2.out.size; (try simp at this); omega)
          go_simp
          have own1_5 := Lib.hid (own_grew own1_2.out g5)
          have own2_5 := Lib.hid (own_grew own2.out g5)
          clear g5
          refine hK.out _ _ kb5 (fun _ => ?_)
          clear hK K
          (try simp only [Act.put, List.setIfInBounds_toArray, List.set_cons_zero, List.set_cons_succ])
          refine wpAnyH_ready (rs := [5]) (by kernel_rfl) (by simp) ?_
          refine AllReadyH.cons (o := _) rfl (fun K hK => ?_) ?_
          · skip
            have g6 := grew_alloc (wa2.alloc (.cells #[.int .u8 0, .int .u64 0, .int .u64 0, .int .u64 0, .int .u64 0, .int .u64 0, .int .u64 0, .string ⟨#[]⟩, .string ⟨#[]⟩, .slice none 0 0] 27)) (.cells #[.int .u8 0, .int .u64 0, .int .u64 0, .int .u64 0, .int .u64 0, .int .u64 0, .int .u64 0, .string ⟨#[]⟩, .string ⟨#[]⟩, .slice none 0 0] 27)
            have new6 : RowKit.Hid (Blk ((wa2.alloc (.cells #[.int .u8 0, .int .u64 0, .int .u64 0, .int .u64 0, .int .u64 0, .int .u64 0, .int .u64 0, .string ⟨#[]⟩, .string ⟨#[]⟩, .slice none 0 0] 27)).alloc (.cells #[.int .u8 0, .int .u64 0, .int .u64 0, .int .u64 0, .int .u64 0, .int .u64 0, .int .u64 0, .string ⟨#[]⟩, .string ⟨#[]⟩, .slice none 0 0] 27)) (wa2.heap.size + 1) 27 #[.int .u8 0, .int .u64 0, .int .u64 0, .int .u64 0, .int .u64 0, .int .u64 0, .int .u64 0, .string ⟨#[]⟩, .string ⟨#[]⟩, .slice none 0 0]) := Lib.hid (Blk.at (by simp))
            have gW6 := Lib.hid (Grew.trans gW5.out g6)
            have kb6 := kb5.grew g6
            have lt6 := Lib.hid (show w3.heap.size ≤ wa2.heap.size + 1 from by have := gW5.out.size; (try simp at this); omega)
            go_simp
            have ne6 := Lib.hid (show (wa2.heap.size) ≠ wa2.heap.size + 1 from by have := (new5).out.lt; (try simp at this); omega)
            have own1_6 := Lib.hid (own_grew own1_5.out g6)
            have own2_6 := Lib.hid (own_grew own2_5.out g6)
            have new5_6 := Lib.hid ((new5).out.grew g6)
            clear g6
            refine hK.out _ _ kb6 (fun _ => ?_)
            clear hK K
            (try simp only [Act.put, List.setIfInBounds_toArray, List.set_cons_zero, List.set_cons_succ])
            refine wpAnyH_ready (rs := [7]) (by kernel_rfl) (by simp) ?_
            refine AllReadyH.cons (o := _) rfl (fun K hK => ?_) AllReadyH.nil
            refine wp_store_row 27 _ _ rfl (wa2.heap.size + 1) (msgA m v1) rfl rfl 27 _ new6.out (by kernel_rfl) rfl (msgA_all _ (tx_own own1_6.out)) ?_
            have hne : (wa2.heap.size) ≠ (wa2.heap.size + 1) := (ne6.out)
            have hb7 : w.heap.size ≠ (wa2.heap.size + 1) := (by have := HWZ.out; have := lt6.out; omega)
            have hb8 : w.heap.size ≠ (wa2.heap.size) := (by have := HWZ.out; have := lt5.out; omega)
            have k8' := blk_row (new := msgA m v1) new5_6.out new6.out hne
            have o1' := own_row (new := msgA m v1) own1_6.out new6.out
            have t4' := own_row (new := msgA m v1) own2_6.out new6.out
            have k7' := new6.out.row (msgA m v1)
            have kb' := blk_row (new := msgA m v1) kb6 new6.out hb7
            have gW' := below_setRow (gW6.out) (show w3.heap.size ≤ (wa2.heap.size + 1) from lt6.out) (msgA m v1)
            refine hK.out _ _ kb' (fun _ => ?_)
            clear hK K
            (try simp only [Act.put, List.setIfInBounds_toArray])
            refine wpAnyH_ready (rs := [8]) (by kernel_rfl) (by simp) ?_
            refine AllReadyH.cons (o := _) rfl (fun K hK => ?_) AllReadyH.nil
            refine wp_store_row 27 _ _ rfl (wa2.heap.size) (msgA (cleanM m (ofKind m.k (rowsIn ver))) v2) rfl rfl 27 _ k8' (by kernel_rfl) rfl (msgA_all _ (tx_own t4')) ?_
            refine hK.out _ _ (blk_row kb' k8' hb8) (fun _ => ?_)
            clear hK K
            (try simp only [Act.put])
            refine wpAnyH_done (by kernel_rfl) ?_ _
            go_wp2_with fail
            go_meet
            exact ⟨(wa2.heap.size + 1), (wa2.heap.size), v1, v2, rfl, rfl, blk_row k7' k8' (Ne.symm hne), k8'.row _, own_row o1' k8', tx_own (own_row t4' k8'), below_setRow gW' lt5.out _⟩
          exact AllReadyH.nil
        exact AllReadyH.nil
      refine AllReadyH.cons (o := _) rfl (fun K hK => ?_) ?_
      · skip
        have g7 := grew_alloc wa1 (.cells #[.int .u8 0, .int .u64 0, .int .u64 0, .int .u64 0, .int .u64 0, .int .u64 0, .int .u64 0, .string ⟨#[]⟩, .string ⟨#[]⟩, .slice none 0 0] 27)
        have new7 : RowKit.Hid (Blk (wa1.alloc (.cells #[.int .u8 0, .int .u64 0, .int .u64 0, .int .u64 0, .int .u64 0, .int .u64 0, .int .u64 0, .string ⟨#[]⟩, .string ⟨#[]⟩, .slice none 0 0] 27)) (wa1.heap.size) 27 #[.int .u8 0, .int .u64 0, .int .u64 0, .int .u64 0, .int .u64 0, .int .u64 0, .int .u64 0, .string ⟨#[]⟩, .string ⟨#[]⟩, .slice none 0 0]) := Lib.hid (Blk.at (by simp))
        have gW7 := Lib.hid (Grew.trans gW1.out g7)
        have kb7 := kb1.grew g7
        have lt7 := Lib.hid (show w3.heap.size ≤ wa1.heap.size from by have := gW1.out.size; (try simp at this); omega)
        go_simp
        have own1_7 := Lib.hid (own_grew own1.out g7)
        clear g7
        refine hK.out _ _ kb7 (fun _ => ?_)
        clear hK K
        (try simp only [Act.put, List.setIfInBounds_toArray, List.set_cons_zero, List.set_cons_succ])
        refine wpAnyH_ready (rs := [4, 6]) (by kernel_rfl) (by simp) ?_
        refine AllReadyH.cons (o := _) rfl (fun K hK => ?_) ?_
        · skip
          go_simp
          refine (KCL.out _ (G3.out.trans gW7.out) HLN.out).mono ?_
          rintro e8 wa8 ⟨v8, rfl, o8, g8, -⟩
          have own8 := Lib.hid (own_mono (base' := w.heap.size) o8 (Nat.le_trans G3.out.size gW7.out.size))
          have gW8 := Lib.hid (Grew.trans gW7.out g8)
          have kb8 := kb7.grew g8
          have own1_8 := Lib.hid (own_grew own1_7.out g8)
          have new7_8 := Lib.hid ((new7).out.grew g8)
          clear g8 o8
          refine hK.out _ _ kb8 (fun _ => ?_)
          clear hK K
          (try simp only [Act.put, List.setIfInBounds_toArray, List.set_cons_zero, List.set_cons_succ])
          refine wpAnyH_ready (rs := [6]) (by kernel_rfl) (by simp) ?_
          refine AllReadyH.cons (o := _) rfl (fun K hK => ?_) ?_
          · skip
            have g9 := grew_alloc wa8 (.cells #[.int .u8 0, .int .u64 0, .int .u64 0, .int .u64 0, .int .u64 0, .int .u64 0, .int .u64 0, .string ⟨#[]⟩, .string ⟨#[]⟩, .slice none 0 0] 27)
            have new9 : RowKit.Hid (Blk (wa8.alloc (.cells #[.int .u8 0, .int .u64 0, .int .u64 0, .int .u64 0, .int .u64 0, .int .u64 0, .int .u64 0, .string ⟨#[]⟩, .string ⟨#[]⟩, .slice none 0 0] 27)) (wa8.heap.size) 27 #[.int .u8 0, .int .u64 0, .int .u64 0, .int .u64 0, .int .u64 0, .int .u64 0, .int .u64 0, .string ⟨#[]⟩, .string ⟨#[]⟩, .slice none 0 0]) := Lib.hid (Blk.at (by simp))
            have gW9 := Lib.hid (Grew.trans gW8.out g9)
            have kb9 := kb8.grew g9
            have lt9 := Lib.hid (show w3.heap.size ≤ wa8.heap.size from by have := gW8.out.size; (try simp at this); omega)
            go_simp
            have ne9 := Lib.hid (show (wa1.heap.size) ≠ wa8.heap.size from by have := (new7_8).out.lt; (try simp at this); omega)
            have own1_9 := Lib.hid (own_grew own1_8.out g9)
            have own8_9 := Lib.hid (own_grew own8.out g9)
            have new7_9 := Lib.hid ((new7_8).out.grew g9)
            clear g9
            refine hK.out _ _ kb9 (fun _ => ?_)
            clear hK K
            (try simp only [Act.put, List.setIfInBounds_toArray, List.set_cons_zero, List.set_cons_succ])
            refine wpAnyH_ready (rs := [7]) (by kernel_rfl) (by simp) ?_
            refine AllReadyH.cons (o := _) rfl (fun K hK => ?_) AllReadyH.nil
            refine wp_store_row 27 _ _ rfl (wa1.heap.size) (msgA m v1) rfl rfl 27 _ new7_9.out (by kernel_rfl) rfl (msgA_all _ (tx_own own1_9.out)) ?_
            have hne : (wa8.heap.size) ≠ (wa1.heap.size) := (Ne.symm ne9.out)
            have hb7 : w.heap.size ≠ (wa1.heap.size) := (by have := HWZ.out; have := lt7.out; omega)
            have hb8 : w.heap.size ≠ (wa8.heap.size) := (by have := HWZ.out; have := lt9.out; omega)
            have k8' := blk_row (new := msgA m v1) new9.out new7_9.out hne
            have o1' := own_row (new := msgA m v1) own1_9.out new7_9.out
            have t4' := own_row (new := msgA m v1) own8_9.out new7_9.out
            have k7' := new7_9.out.row (msgA m v1)
            have kb' := blk_row (new := msgA m v1) kb9 new7_9.out hb7
            have gW' := below_setRow (gW9.out) (show w3.heap.size ≤ (wa1.heap.size) from lt7.out) (msgA m v1)
            refine hK.out _ _ kb' (fun _ => ?_)
            clear hK K
            (try simp only [Act.put, List.setIfInBounds_toArray])
            refine wpAnyH_ready (rs := [8]) (by kernel_rfl) (by simp) ?_
            refine AllReadyH.cons (o := _) rfl (fun K hK => ?_) AllReadyH.nil
            refine wp_store_row 27 _ _ rfl (wa8.heap.size) (msgA (cleanM m (ofKind m.k (rowsIn ver))) v8) rfl rfl 27 _ k8' (by kernel_rfl) rfl (msgA_all _ (tx_own t4')) ?_
            refine hK.out _ _ (blk_row kb' k8' hb8) (fun _ => ?_)
            clear hK K
            (try simp only [Act.put])
            refine wpAnyH_done (by kernel_rfl) ?_ _
            go_wp2_with fail
            go_meet
            exact ⟨(wa1.heap.size), (wa8.heap.size), v1, v8, rfl, rfl, blk_row k7' k8' (Ne.symm hne), k8'.row _, own_row o1' k8', tx_own (own_row t4' k8'), below_setRow gW' lt9.out _⟩
          exact AllReadyH.nil
        refine AllReadyH.cons (o := _) rfl (fun K hK => ?_) ?_
        · skip
          have g10 := grew_alloc (wa1.alloc (.cells #[.int .u8 0, .int .u64 0, .int .u64 0, .int .u64 0, .int .u64 0, .int .u64 0, .int .u64 0, .string ⟨#[]⟩, .string ⟨#[]⟩, .slice none 0 0] 27)) (.cells #[.int .u8 0, .int .u64 0, .int .u64 0, .int .u64 0, .int .u64 0, .int .u64 0, .int .u64 0, .string ⟨#[]⟩, .string ⟨#[]⟩, .slice none 0 0] 27)
          have new10 : RowKit.Hid (Blk ((wa1.alloc (.cells #[.int .u8 0, .int .u64 0, .int .u64 0, .int .u64 0, .int .u64 0, .int .u64 0, .int .u64 0, .string ⟨#[]⟩, .string ⟨#[]⟩, .slice none 0 0] 27)).alloc (.cells #[.int .u8 0, .int .u64 0, .int .u64 0, .int .u64 0, .int .u64 0, .int .u64 0, .int .u64 0, .string ⟨#[]⟩, .string ⟨#[]⟩, .slice none 0 0] 27)) (wa1.heap.size + 1) 27 #[.int .u8 0, .int .u64 0, .int .u64 0, .int .u64 0, .int .u64 0, .int .u64 0, .int .u64 0, .string ⟨#[]⟩, .string ⟨#[]⟩, .slice none 0 0]) := Lib.hid (Blk.at (by simp))
          have gW10 := Lib.hid (Grew.trans gW7.out g10)
          have kb10 := kb7.grew g10
          have lt10 := Lib.hid (show w3.heap.size ≤ wa1.heap.size + 1 from by have := gW7.out.size; (try simp at this); omega)
          go_simp
          have ne10 := Lib.hid (show (wa1.heap.size) ≠ wa1.heap.size + 1 from by have := (new7).out.lt; (try simp at this); omega)
          have own1_10 := Lib.hid (own_grew own1_7.out g10)
          have new7_10 := Lib.hid ((new7).out.grew g10)
          clear g10
          refine hK.out _ _ kb10 (fun _ => ?_)
          clear hK K
          (try simp only [Act.put, List.setIfInBounds_toArray, List.set_cons_zero, List.set_cons_succ])
          refine wpAnyH_ready (rs := [4]) (by kernel_rfl) (by simp) ?_
          refine AllReadyH.cons (o := _) rfl (fun K hK => ?_) ?_
          · skip
            go_simp
            refine (KCL.out _ (G3.out.trans gW10.out) HLN.out).mono ?_
            rintro e11 wa11 ⟨v11, rfl, o11, g11, -⟩
            have own11 := Lib.hid (own_mono (base' := w.heap.size) o11 (Nat.le_trans G3.out.size gW10.out.size))
            have gW11 := Lib.hid (Grew.trans gW10.out g11)
            have kb11 := kb10.grew g11
            have own1_11 := Lib.hid (own_grew own1_10.out g11)
            have new7_11 := Lib.hid ((new7_10).out.grew g11)
            have new10_11 := Lib.hid ((new10).out.grew g11)
            clear g11 o11
            refine hK.out _ _ kb11 (fun _ => ?_)
            clear hK K
            (try simp only [Act.put, List.setIfInBounds_toArray, List.set_cons_zero, List.set_cons_succ])
            refine wpAnyH_ready (rs := [7]) (by kernel_rfl) (by simp) ?_
            refine AllReadyH.cons (o := _) rfl (fun K hK => ?_) AllReadyH.nil
            refine wp_store_row 27 _ _ rfl (wa1.heap.size) (msgA m v1) rfl rfl 27 _ new7_11.out (by kernel_rfl) rfl (msgA_all _ (tx_own own1_11.out)) ?_
            have hne : (wa1.heap.size + 1) ≠ (wa1.heap.size) := (Ne.symm ne10.out)
            have hb7 : w.heap.size ≠ (wa1.heap.size) := (by have := HWZ.out; have := lt7.out; omega)
            have hb8 : w.heap.size ≠ (wa1.heap.size + 1) := (by have := HWZ.out; have := lt10.out; omega)
            have k8' := blk_row (new := msgA m v1) new10_11.out new7_11.out hne
            have o1' := own_row (new := msgA m v1) own1_11.out new7_11.out
            have t4' := own_row (new := msgA m v1) own11.out new7_11.out
            have k7' := new7_11.out.row (msgA m v1)
            have kb' := blk_row (new := msgA m v1) kb11 new7_11.out hb7
            have gW' := below_setRow (gW11.out) (show w3.heap.size ≤ (wa1.heap.size) from lt7.out) (msgA m v1)
            refine hK.out _ _ kb' (fun _ => ?_)
            clear hK K
            (try simp only [Act.put, List.setIfInBounds_toArray])
            refine wpAnyH_ready (rs := [8]) (by kernel_rfl) (by simp) ?_
            refine AllReadyH.cons (o := _) rfl (fun K hK => ?_) AllReadyH.nil
            refine wp_store_row 27 _ _ rfl (wa1.heap.size + 1) (msgA (cleanM m (ofKind m.k (rowsIn ver))) v11) rfl rfl 27 _ k8' (by kernel_rfl) rfl (msgA_all _ (tx_own t4')) ?_
            refine hK.out _ _ (blk_row kb' k8' hb8) (fun _ => ?_)
            clear hK K
            (try simp only [Act.put])
            refine wpAnyH_done (by kernel_rfl) ?_ _
            go_wp2_with fail
            go_meet
            exact ⟨(wa1.heap.size), (wa1.heap.size + 1), v1, v11, rfl, rfl, blk_row k7' k8' (Ne.symm hne), k8'.row _, own_row o1' k8', tx_own (own_row t4' k8'), below_setRow gW' lt10.out _⟩
          exact AllReadyH.nil
        exact AllReadyH.nil
      refine AllReadyH.cons (o := _) rfl (fun K hK => ?_) ?_
      · skip
        have g12 := grew_alloc wa1 (.cells #[.int .u8 0, .int .u64 0, .int .u64 0, .int .u64 0, .int .u64 0, .int .u64 0, .int .u64 0, .string ⟨#[]⟩, .string ⟨#[]⟩, .slice none 0 0] 27)
        have new12 : RowKit.Hid (Blk (wa1.alloc (.cells #[.int .u8 0, .int .u64 0, .int .u64 0, .int .u64 0, .int .u64 0, .int .u64 0, .int .u64 0, .string ⟨#[]⟩, .string ⟨#[]⟩, .slice none 0 0] 27)) (wa1.heap.size) 27 #[.int .u8 0, .int .u64 0, .int .u64 0, .int .u64 0, .int .u64 0, .int .u64 0, .int .u64 0, .string ⟨#[]⟩, .string ⟨#[]⟩, .slice none 0 0]) := Lib.hid (Blk.at (by simp))
        have gW12 := Lib.hid (Grew.trans gW1.out g12)
        have kb12 := kb1.grew g12
        have lt12 := Lib.hid (show w3.heap.size ≤ wa1.heap.size from by have := gW1.out.size; (try simp at this); omega)
        go_simp
        have own1_12 := Lib.hid (own_grew own1.out g12)
        clear g12
        refine hK.out _ _ kb12 (fun _ => ?_)
        clear hK K
        (try simp only [Act.put, List.setIfInBounds_toArray, List.set_cons_zero, List.set_cons_succ])
        refine wpAnyH_ready (rs := [4, 5]) (by kernel_rfl) (by simp) ?_
        refine AllReadyH.cons (o := _) rfl (fun K hK => ?_) ?_
        · skip
          go_simp
          refine (KCL.out _ (G3.out.trans gW12.out) HLN.out).mono ?_
          rintro e13 wa13 ⟨v13, rfl, o13, g13, -⟩
          have own13 := Lib.hid (own_mono (base' := w.heap.size) o13 (Nat.le_trans G3.out.size gW12.out.size))
          have gW13 := Lib.hid (Grew.trans gW12.out g13)
          have kb13 := kb12.grew g13
          have own1_13 := Lib.hid (own_grew own1_12.out g13)
          have new12_13 := Lib.hid ((new12).out.grew g13)
          clear g13 o13
          refine hK.out _ _ kb13 (fun _ => ?_)
          clear hK K
          (try simp only [Act.put, List.setIfInBounds_toArray, List.set_cons_zero, List.set_cons_succ])
          refine wpAnyH_ready (rs := [5]) (by kernel_rfl) (by simp) ?_
          refine AllReadyH.cons (o := _) rfl (fun K hK => ?_) ?_
          · skip
            have g14 := grew_alloc wa13 (.cells #[.int .u8 0, .int .u64 0, .int .u64 0, .int .u64 0, .int .u64 0, .int .u64 0, .int .u64 0, .string ⟨#[]⟩, .string ⟨#[]⟩, .slice none 0 0] 27)
            have new14 : RowKit.Hid (Blk (wa13.alloc (.cells #[.int .u8 0, .int .u64 0, .int .u64 0, .int .u64 0, .int .u64 0, .int .u64 0, .int .u64 0, .string ⟨#[]⟩, .string ⟨#[]⟩, .slice none 0 0] 27)) (wa13.heap.size) 27 #[.int .u8 0, .int .u64 0, .int .u64 0, .int .u64 0, .int .u64 0, .int .u64 0, .int .u64 0, .string ⟨#[]⟩, .string ⟨#[]⟩, .slice none 0 0]) := Lib.hid (Blk.at (by simp))
            have gW14 := Lib.hid (Grew.trans gW13.out g14)
            have kb14 := kb13.grew g14
            have lt14 := Lib.hid (show w3.heap.size ≤ wa13.heap.size from by have := gW13.out.size; (try simp at this); omega)
            go_simp
            have ne14 := Lib.hid (show (wa1.heap.size) ≠ wa13.heap.size from by have := (new12_13).out.lt; (try simp at this); omega)
            have own1_14 := Lib.hid (own_grew own1_13.out g14)
            have own13_14 := Lib.hid (own_grew own13.out g14)
            have new12_14 := Lib.hid ((new12_13).out.grew g14)
            clear g14
            refine hK.out _ _ kb14 (fun _ => ?_)
            clear hK K
            (try simp only [Act.put, List.setIfInBounds_toArray, List.set_cons_zero, List.set_cons_succ])
            refine wpAnyH_ready (rs := [7]) (by kernel_rfl) (by simp) ?_
            refine AllReadyH.cons (o := _) rfl (fun K hK => ?_) AllReadyH.nil
            refine wp_store_row 27 _ _ rfl (wa13.heap.size) (msgA m v1) rfl rfl 27 _ new14.out (by kernel_rfl) rfl (msgA_all _ (tx_own own1_14.out)) ?_
            have hne : (wa1.heap.size) ≠ (wa13.heap.size) := (ne14.out)
            have hb7 : w.heap.size ≠ (wa13.heap.size) := (by have := HWZ.out; have := lt14.out; omega)
            have hb8 : w.heap.size ≠ (wa1.heap.size) := (by have := HWZ.out; have := lt12.out; omega)
            have k8' := blk_row (new := msgA m v1) new12_14.out new14.out hne
            have o1' := own_row (new := msgA m v1) own1_14.out new14.out
            have t4' := own_row (new := msgA m v1) own13_14.out new14.out
            have k7' := new14.out.row (msgA m v1)
            have kb' := blk_row (new := msgA m v1) kb14 new14.out hb7
            have gW' := below_setRow (gW14.out) (show w3.heap.size ≤ (wa13.heap.size) from lt14.out) (msgA m v1)
            refine hK.out _ _ kb' (fun _ => ?_)
            clear hK K
            (try simp only [Act.put, List.setIfInBounds_toArray])
            refine wpAnyH_ready (rs := [8]) (by kernel_rfl) (by simp) ?_
            refine AllReadyH.cons (o := _) rfl (fun K hK => ?_) AllReadyH.nil
            refine wp_store_row 27 _ _ rfl (wa1.heap.size) (msgA (cleanM m (ofKind m.k (rowsIn ver))) v13) rfl rfl 27 _ k8' (by kernel_rfl) rfl (msgA_all _ (tx_own t4')) ?_
            refine hK.out _ _ (blk_row kb' k8' hb8) (fun _ => ?_)
            clear hK K
            (try simp only [Act.put])
            refine wpAnyH_done (by kernel_rfl) ?_ _
            go_wp2_with fail
            go_meet
            exact ⟨(wa13.heap.size), (wa1.heap.size), v1, v13, rfl, rfl, blk_row k7' k8' (Ne.symm hne), k8'.row _, own_row o1' k8', tx_own (own_row t4' k8'), below_setRow gW' lt12.out _⟩
          exact AllReadyH.nil
        refine AllReadyH.cons (o := _) rfl (fun K hK => ?_) ?_
        · skip
          have g15 := grew_alloc (wa1.alloc (.cells #[.int .u8 0, .int .u64 0, .int .u64 0, .int .u64 0, .int .u64 0, .int .u64 0, .int .u64 0, .string ⟨#[]⟩, .string ⟨#[]⟩, .slice none 0 0] 27)) (.cells #[.int .u8 0, .int .u64 0, .int .u64 0, .int .u64 0, .int .u64 0, .int .u64 0, .int .u64 0, .string ⟨#[]⟩, .string ⟨#[]⟩, .slice none 0 0] 27)
          have new15 : RowKit.Hid (Blk ((wa1.alloc (.cells #[.int .u8 0, .int .u64 0, .int .u64 0, .int .u64 0, .int .u64 0, .int .u64 0, .int .u64 0, .string ⟨#[]⟩, .string ⟨#[]⟩, .slice none 0 0] 27)).alloc (.cells #[.int .u8 0, .int .u64 0, .int .u64 0, .int .u64 0, .int .u64 0, .int .u64 0, .int .u64 0, .string ⟨#[]⟩, .string ⟨#[]⟩, .slice none 0 0] 27)) (wa1.heap.size + 1) 27 #[.int .u8 0, .int .u64 0, .int .u64 0, .int .u64 0, .int .u64 0, .int .u64 0, .int .u64 0, .string ⟨#[]⟩, .string ⟨#[]⟩, .slice none 0 0]) := Lib.hid (Blk.at (by simp))
          have gW15 := Lib.hid (Grew.trans gW12.out g15)
          have kb15 := kb12.grew g15
          have lt15 := Lib.hid (show w3.heap.size ≤ wa1.heap.size + 1 from by have := gW12.out.size; (try simp at this); omega)
          go_simp
          have ne15 := Lib.hid (show (wa1.heap.size) ≠ wa1.heap.size + 1 from by have := (new12).out.lt; (try simp at this); omega)
          have own1_15 := Lib.hid (own_grew own1_12.out g15)
          have new12_15 := Lib.hid ((new12).out.grew g15)
          clear g15
          refine hK.out _ _ kb15 (fun _ => ?_)
          clear hK K
          (try simp only [Act.put, List.setIfInBounds_toArray, List.set_cons_zero, List.set_cons_succ])
          refine wpAnyH_ready (rs := [4]) (by kernel_rfl) (by simp) ?_
          refine AllReadyH.cons (o := _) rfl (fun K hK => ?_) ?_
          · skip
            go_simp
            refine (KCL.out _ (G3.out.trans gW15.out) HLN.out).mono ?_
            rintro e16 wa16 ⟨v16, rfl, o16, g16, -⟩
            have own16 := Lib.hid (own_mono (base' := w.heap.size) o16 (Nat.le_trans G3.out.size gW15.out.size))
            have gW16 := Lib.hid (Grew.trans gW15.out g16)
            have kb16 := kb15.grew g16
            have own1_16 := Lib.hid (own_grew own1_15.out g16)
            have new15_16 := Lib.hid ((new15).out.grew g16)
            have new12_16 := Lib.hid ((new12_15).out.grew g16)
            clear g16 o16
            refine hK.out _ _ kb16 (fun _ => ?_)
            clear hK K
            (try simp only [Act.put, List.setIfInBounds_toArray, List.set_cons_zero, List.set_cons_succ])
            refine wpAnyH_ready (rs := [7]) (by kernel_rfl) (by simp) ?_
            refine AllReadyH.cons (o := _) rfl (fun K hK => ?_) AllReadyH.nil
            refine wp_store_row 27 _ _ rfl (wa1.heap.size + 1) (msgA m v1) rfl rfl 27 _ new15_16.out (by kernel_rfl) rfl (msgA_all _ (tx_own own1_16.out)) ?_
            have hne : (wa1.heap.size) ≠ (wa1.heap.size + 1) := (ne15.out)
            have hb7 : w.heap.size ≠ (wa1.heap.size + 1) := (by have := HWZ.out; have := lt15.out; omega)
            have hb8 : w.heap.size ≠ (wa1.heap.size) := (by have := HWZ.out; have := lt12.out; omega)
            have k8' := blk_row (new := msgA m v1) new12_16.out new15_16.out hne
            have o1' := own_row (new := msgA m v1) own1_16.out new15_16.out
            have t4' := own_row (new := msgA m v1) own16.out new15_16.out
            have k7' := new15_16.out.row (msgA m v1)
            have kb' := blk_row (new := msgA m v1) kb16 new15_16.out hb7
            have gW' := below_setRow (gW16.out) (show w3.heap.size ≤ (wa1.heap.size + 1) from lt15.out) (msgA m v1)
            refine hK.out _ _ kb' (fun _ => ?_)
            clear hK K
            (try simp only [Act.put, List.setIfInBounds_toArray])
            refine wpAnyH_ready (rs := [8]) (by kernel_rfl) (by simp) ?_
            refine AllReadyH.cons (o := _) rfl (fun K hK => ?_) AllReadyH.nil
            refine wp_store_row 27 _ _ rfl (wa1.heap.size) (msgA (cleanM m (ofKind m.k (rowsIn ver))) v16) rfl rfl 27 _ k8' (by kernel_rfl) rfl (msgA_all _ (tx_own t4')) ?_
            refine hK.out _ _ (blk_row kb' k8' hb8) (fun _ => ?_)
            clear hK K
            (try simp only [Act.put])
            refine wpAnyH_done (by kernel_rfl) ?_ _
            go_wp2_with fail
            go_meet
            exact ⟨(wa1.heap.size + 1), (wa1.heap.size), v1, v16, rfl, rfl, blk_row k7' k8' (Ne.symm hne), k8'.row _, own_row o1' k8', tx_own (own_row t4' k8'), below_setRow gW' lt12.out _⟩
          exact AllReadyH.nil
        exact AllReadyH.nil
      exact AllReadyH.nil
    refine AllReadyH.cons (o := _) rfl (fun K hK => ?_) ?_
    · skip
      have g17 := grew_alloc w3.drew (.cells #[.int .u8 0, .int .u64 0, .int .u64 0, .int .u64 0, .int .u64 0, .int .u64 0, .int .u64 0, .string ⟨#[]⟩, .string ⟨#[]⟩, .slice none 0 0] 27)
      have new17 : RowKit.Hid (Blk (w3.drew.alloc (.cells #[.int .u8 0, .int .u64 0, .int .u64 0, .int .u64 0, .int .u64 0, .int .u64 0, .int .u64 0, .string ⟨#[]⟩, .string ⟨#[]⟩, .slice none 0 0] 27)) (w3.heap.size) 27 #[.int .u8 0, .int .u64 0, .int .u64 0, .int .u64 0, .int .u64 0, .int .u64 0, .int .u64 0, .string ⟨#[]⟩, .string ⟨#[]⟩, .slice none 0 0]) := Lib.hid (Blk.at (by simp))
      have gW17 := Lib.hid (Grew.trans gW0.out g17)
      have kb17 := kb0.grew g17
      have lt17 := Lib.hid (show w3.heap.size ≤ w3.heap.size from by have := gW0.out.size; (try simp at this); omega)
      go_simp
      clear g17
      refine hK.out _ _ kb17 (fun _ => ?_)
      clear hK K
      (try simp only [Act.put, List.setIfInBounds_toArray, List.set_cons_zero, List.set_cons_succ])
      refine wpAnyH_ready (rs := [1, 6]) (by kernel_rfl) (by simp) ?_
      refine AllReadyH.cons (o := _) rfl (fun K hK => ?_) ?_
      · skip
        go_simp
        refine (KP.out _ (G3.out.trans gW17.out) HLN.out).mono ?_
        rintro e18 wa18 ⟨v18, rfl, o18, g18, -⟩
        have own18 := Lib.hid (own_mono (base' := w.heap.size) o18 (Nat.le_trans G3.out.size gW17.out.size))
        have gW18 := Lib.hid (Grew.trans gW17.out g18)
        have kb18 := kb17.grew g18
        have new17_18 := Lib.hid ((new17).out.grew g18)
        clear g18 o18
        refine hK.out _ _ kb18 (fun _ => ?_)
        clear hK K
        (try simp only [Act.put, List.setIfInBounds_toArray, List.set_cons_zero, List.set_cons_succ])
        refine wpAnyH_ready (rs := [4, 6]) (by kernel_rfl) (by simp) ?_
        refine AllReadyH.cons (o := _) rfl (fun K hK => ?_) ?_
        · skip
          go_simp
          refine (KCL.out _ (G3.out.trans gW18.out) HLN.out).mono ?_
          rintro e19 wa19 ⟨v19, rfl, o19, g19, -⟩
          have own19 := Lib.hid (own_mono (base' := w.heap.size) o19 (Nat.le_trans G3.out.size gW18.out.size))
          have gW19 := Lib.hid (Grew.trans gW18.out g19)
          have kb19 := kb18.grew g19
          have own18_19 := Lib.hid (own_grew own18.out g19)
          have new17_19 := Lib.hid ((new17_18).out.grew g19)
          clear g19 o19
          refine hK.out _ _ kb19 (fun _ => ?_)
          clear hK K
          (try simp only [Act.put, List.setIfInBounds_toArray, List.set_cons_zero, List.set_cons_succ])
          refine wpAnyH_ready (rs := [6]) (by kernel_rfl) (by simp) ?_
          refine AllReadyH.cons (o := _) rfl (fun K hK => ?_) ?_
          · skip
            have g20 := grew_alloc wa19 (.cells #[.int .u8 0, .int .u64 0, .int .u64 0, .int .u64 0, .int .u64 0, .int .u64 0, .int .u64 0, .string ⟨#[]⟩, .string ⟨#[]⟩, .slice none 0 0] 27)
            have new20 : RowKit.Hid (Blk (wa19.alloc (.cells #[.int .u8 0, .int .u64 0, .int .u64 0, .int .u64 0, .int .u64 0, .int .u64 0, .int .u64 0, .string ⟨#[]⟩, .string ⟨#[]⟩, .slice none 0 0] 27)) (wa19.heap.size) 27 #[.int .u8 0, .int .u64 0, .int .u64 0, .int .u64 0, .int .u64 0, .int .u64 0, .int .u64 0, .string ⟨#[]⟩, .string ⟨#[]⟩, .slice none 0 0]) := Lib.hid (Blk.at (by simp))
            have gW20 := Lib.hid (Grew.trans gW19.out g20)
            have kb20 := kb19.grew g20
            have lt20 := Lib.hid (show w3.heap.size ≤ wa19.heap.size from by have := gW19.out.size; (try simp at this); omega)
            go_simp
            have ne20 := Lib.hid (show (w3.heap.size) ≠ wa19.heap.size from by have := (new17_19).out.lt; (try simp at this); omega)
            have own18_20 := Lib.hid (own_grew own18_19.out g20)
            have own19_20 := Lib.hid (own_grew own19.out g20)
            have new17_20 := Lib.hid ((new17_19).out.grew g20)
            clear g20
            refine hK.out _ _ kb20 (fun _ => ?_)
            clear hK K
            (try simp only [Act.put, List.setIfInBounds_toArray, List.set_cons_zero, List.set_cons_succ])
            refine wpAnyH_ready (rs := [7]) (by kernel_rfl) (by simp) ?_
            refine AllReadyH.cons (o := _) rfl (fun K hK => ?_) AllReadyH.nil
            refine wp_store_row 27 _ _ rfl (w3.heap.size) (msgA m v18) rfl rfl 27 _ new17_20.out (by kernel_rfl) rfl (msgA_all _ (tx_own own18_20.out)) ?_
            have hne : (wa19.heap.size) ≠ (w3.heap.size) := (Ne.symm ne20.out)
            have hb7 : w.heap.size ≠ (w3.heap.size) := (by have := HWZ.out; have := lt17.out; omega)
            have hb8 : w.heap.size ≠ (wa19.heap.size) := (by have := HWZ.out; have := lt20.out; omega)
            have k8' := blk_row (new := msgA m v18) new20.out new17_20.out hne
            have o1' := own_row (new := msgA m v18) own18_20.out new17_20.out
            have t4' := own_row (new := msgA m v18) own19_20.out new17_20.out
            have k7' := new17_20.out.row (msgA m v18)
            have kb' := blk_row (new := msgA m v18) kb20 new17_20.out hb7
            have gW' := below_setRow (gW20.out) (show w3.heap.size ≤ (w3.heap.size) from lt17.out) (msgA m v18)
            refine hK.out _ _ kb' (fun _ => ?_)
            clear hK K
            (try simp only [Act.put, List.setIfInBounds_toArray])
            refine wpAnyH_ready (rs := [8]) (by kernel_rfl) (by simp) ?_
            refine AllReadyH.cons (o := _) rfl (fun K hK => ?_) AllReadyH.nil
            refine wp_store_row 27 _ _ rfl (wa19.heap.size) (msgA (cleanM m (ofKind m.k (rowsIn ver))) v19) rfl rfl 27 _ k8' (by kernel_rfl) rfl (msgA_all _ (tx_own t4')) ?_
            refine hK.out _ _ (blk_row kb' k8' hb8) (fun _ => ?_)
            clear hK K
            (try simp only [Act.put])
            refine wpAnyH_done (by kernel_rfl) ?_ _
            go_wp2_with fail
            go_meet
            exact ⟨(w3.heap.size), (wa19.heap.size), v18, v19, rfl, rfl, blk_row k7' k8' (Ne.symm hne), k8'.row _, own_row o1' k8', tx_own (own_row t4' k8'), below_setRow gW' lt20.out _⟩
          exact AllReadyH.nil
        refine AllReadyH.cons (o := _) rfl (fun K hK => ?_) ?_
        · skip
          have g21 := grew_alloc wa18 (.cells #[.int .u8 0, .int .u64 0, .int .u64 0, .int .u64 0, .int .u64 0, .int .u64 0, .int .u64 0, .string ⟨#[]⟩, .string ⟨#[]⟩, .slice none 0 0] 27)
          have new21 : RowKit.Hid (Blk (wa18.alloc (.cells #[.int .u8 0, .int .u64 0, .int .u64 0, .int .u64 0, .int .u64 0, .int .u64 0, .int .u64 0, .string ⟨#[]⟩, .string ⟨#[]⟩, .slice none 0 0] 27)) (wa18.heap.size) 27 #[.int .u8 0, .int .u64 0, .int .u64 0, .int .u64 0, .int .u64 0, .int .u64 0, .int .u64 0, .string ⟨#[]⟩, .string ⟨#[]⟩, .slice none 0 0]) := Lib.hid (Blk.at (by simp))
          have gW21 := Lib.hid (Grew.trans gW18.out g21)
          have kb21 := kb18.grew g21
          have lt21 := Lib.hid (show w3.heap.size ≤ wa18.heap.size from by have := gW18.out.size; (try simp at this); omega)
          go_simp
          have ne21 := Lib.hid (show (w3.heap.size) ≠ wa18.heap.size from by have := (new17_18).out.lt; (try simp at this); omega)
          have own18_21 := Lib.hid (own_grew own18.out g21)
          have new17_21 := Lib.hid ((new17_18).out.grew g21)
          clear g21
          refine hK.out _ _ kb21 (fun _ => ?_)
          clear hK K
          (try simp only [Act.put, List.setIfInBounds_toArray, List.set_cons_zero, List.set_cons_succ])
          refine wpAnyH_ready (rs := [4]) (by kernel_rfl) (by simp) ?_
          refine AllReadyH.cons (o := _) rfl (fun K hK => ?_) ?_
          · skip
            go_simp
            refine (KCL.out _ (G3.out.trans gW21.out) HLN.out).mono ?_
            rintro e22 wa22 ⟨v22, rfl, o22, g22, -⟩
            have own22 := Lib.hid (own_mono (base' := w.heap.size) o22 (Nat.le_trans G3.out.size gW21.out.size))
            have gW22 := Lib.hid (Grew.trans gW21.out g22)
            have kb22 := kb21.grew g22
            have own18_22 := Lib.hid (own_grew own18_21.out g22)
            have new17_22 := Lib.hid ((new17_21).out.grew g22)
            have new21_22 := Lib.hid ((new21).out.grew g22)
            clear g22 o22
            refine hK.out _ _ kb22 (fun _ => ?_)
            clear hK K
            (try simp only [Act.put, List.setIfInBounds_toArray, List.set_cons_zero, List.set_cons_succ])
            refine wpAnyH_ready (rs := [7]) (by kernel_rfl) (by simp) ?_
            refine AllReadyH.cons (o := _) rfl (fun K hK => ?_) AllReadyH.nil
            refine wp_store_row 27 _ _ rfl (w3.heap.size) (msgA m v18) rfl rfl 27 _ new17_22.out (by kernel_rfl) rfl (msgA_all _ (tx_own own18_22.out)) ?_
            have hne : (wa18.heap.size) ≠ (w3.heap.size) := (Ne.symm ne21.out)
            have hb7 : w.heap.size ≠ (w3.heap.size) := (by have := HWZ.out; have := lt17.out; omega)
            have hb8 : w.heap.size ≠ (wa18.heap.size) := (by have := HWZ.out; have := lt21.out; omega)
            have k8' := blk_row (new := msgA m v18) new21_22.out new17_22.out hne
            have o1' := own_row (new := msgA m v18) own18_22.out new17_22.out
            have t4' := own_row (new := msgA m v18) own22.out new17_22.out
            have k7' := new17_22.out.row (msgA m v18)
            have kb' := blk_row (new := msgA m v18) kb22 new17_22.out hb7
            have gW' := below_setRow (gW22.out) (show w3.heap.size ≤ (w3.heap.size) from lt17.out) (msgA m v18)
            refine hK.out _ _ kb' (fun _ => ?_)
            clear hK K
            (try simp only [Act.put, List.setIfInBounds_toArray])
            refine wpAnyH_ready (rs := [8]) (by kernel_rfl) (by simp) ?_
            refine AllReadyH.cons (o := _) rfl (fun K hK => ?_) AllReadyH.nil
            refine wp_store_row 27 _ _ rfl (wa18.heap.size) (msgA (cleanM m (ofKind m.k (rowsIn ver))) v22) rfl rfl 27 _ k8' (by kernel_rfl) rfl (msgA_all _ (tx_own t4')) ?_
            refine hK.out _ _ (blk_row kb' k8' hb8) (fun _ => ?_)
            clear hK K
            (try simp only [Act.put])
            refine wpAnyH_done (by kernel_rfl) ?_ _
            go_wp2_with fail
            go_meet
            exact ⟨(w3.heap.size), (wa18.heap.size), v18, v22, rfl, rfl, blk_row k7' k8' (Ne.symm hne), k8'.row _, own_row o1' k8', tx_own (own_row t4' k8'), below_setRow gW' lt21.out _⟩
          exact AllReadyH.nil
        exact AllReadyH.nil
      refine AllReadyH.cons (o := _) rfl (fun K hK => ?_) ?_
      · skip
        have g23 := grew_alloc (w3.drew.alloc (.cells #[.int .u8 0, .int .u64 0, .int .u64 0, .int .u64 0, .int .u64 0, .int .u64 0, .int .u64 0, .string ⟨#[]⟩, .string ⟨#[]⟩, .slice none 0 0] 27)) (.cells #[.int .u8 0, .int .u64 0, .int .u64 0, .int .u64 0, .int .u64 0, .int .u64 0, .int .u64 0, .string ⟨#[]⟩, .string ⟨#[]⟩, .slice none 0 0] 27)
        have new23 : RowKit.Hid (Blk ((w3.drew.alloc (.cells #[.int .u8 0, .int .u64 0, .int .u64 0, .int .u64 0, .int .u64 0, .int .u64 0, .int .u64 0, .string ⟨#[]⟩, .string ⟨#[]⟩, .slice none 0 0] 27)).alloc (.cells #[.int .u8 0, .int .u64 0, .int .u64 0, .int .u64 0, .int .u64 0, .int .u64 0, .int .u64 0, .string ⟨#[]⟩, .string ⟨#[]⟩, .slice none 0 0] 27)) (w3.heap.size + 1) 27 #[.int .u8 0, .int .u64 0, .int .u64 0, .int .u64 0, .int .u64 0, .int .u64 0, .int .u64 0, .string ⟨#[]⟩, .string ⟨#[]⟩, .slice none 0 0]) := Lib.hid (Blk.at (by simp))
        have gW23 := Lib.hid (Grew.trans gW17.out g23)
        have kb23 := kb17.grew g23
        have lt23 := Lib.hid (show w3.heap.size ≤ w3.heap.size + 1 from by have := gW17.out.size; (try simp at this); omega)
        go_simp
        have ne23 := Lib.hid (show (w3.heap.size) ≠ w3.heap.size + 1 from by have := (new17).out.lt; (try simp at this); omega)
        have new17_23 := Lib.hid ((new17).out.grew g23)
        clear g23
        refine hK.out _ _ kb23 (fun _ => ?_)
        clear hK K
        (try simp only [Act.put, List.setIfInBounds_toArray, List.set_cons_zero, List.set_cons_succ])
        refine wpAnyH_ready (rs := [1]) (by kernel_rfl) (by simp) ?_
        refine AllReadyH.cons (o := _) rfl (fun K hK => ?_) ?_
        · skip
          go_simp
          refine (KP.out _ (G3.out.trans gW23.out) HLN.out).mono ?_
          rintro e24 wa24 ⟨v24, rfl, o24, g24, -⟩
          have own24 := Lib.hid (own_mono (base' := w.heap.size) o24 (Nat.le_trans G3.out.size gW23.out.size))
          have gW24 := Lib.hid (Grew.trans gW23.out g24)
          have kb24 := kb23.grew g24
          have new17_24 := Lib.hid ((new17_23).out.grew g24)
          have new23_24 := Lib.hid ((new23).out.grew g24)
          clear g24 o24
          refine hK.out _ _ kb24 (fun _ => ?_)
          clear hK K
          (try simp only [Act.put, List.setIfInBounds_toArray, List.set_cons_zero, List.set_cons_succ])
          refine wpAnyH_ready (rs := [4]) (by kernel_rfl) (by simp) ?_
          refine AllReadyH.cons (o := _) rfl (fun K hK => ?_) ?_
          · skip
            go_simp
            refine (KCL.out _ (G3.out.trans gW24.out) HLN.out).mono ?_
            rintro e25 wa25 ⟨v25, rfl, o25, g25, -⟩
            have own25 := Lib.hid (own_mono (base' := w.heap.size) o25 (Nat.le_trans G3.out.size gW24.out.size))
            have gW25 := Lib.hid (Grew.trans gW24.out g25)
            have kb25 := kb24.grew g25
            have own24_25 := Lib.hid (own_grew own24.out g25)
            have new17_25 := Lib.hid ((new17_24).out.grew g25)
            have new23_25 := Lib.hid ((new23_24).out.grew g25)
            clear g25 o25
            refine hK.out _ _ kb25 (fun _ => ?_)
            clear hK K
            (try simp only [Act.put, List.setIfInBounds_toArray, List.set_cons_zero, List.set_cons_succ])
            refine wpAnyH_ready (rs := [7]) (by kernel_rfl) (by simp) ?_
            refine AllReadyH.cons (o := _) rfl (fun K hK => ?_) AllReadyH.nil
            refine wp_store_row 27 _ _ rfl (w3.heap.size) (msgA m v24) rfl rfl 27 _ new17_25.out (by kernel_rfl) rfl (msgA_all _ (tx_own own24_25.out)) ?_
            have hne : (w3.heap.size + 1) ≠ (w3.heap.size) := (Ne.symm ne23.out)
            have hb7 : w.heap.size ≠ (w3.heap.size) := (by have := HWZ.out; have := lt17.out; omega)
            have hb8 : w.heap.size ≠ (w3.heap.size + 1) := (by have := HWZ.out; have := lt23.out; omega)
            have k8' := blk_row (new := msgA m v24) new23_25.out new17_25.out hne
            have o1' := own_row (new := msgA m v24) own24_25.out new17_25.out
            have t4' := own_row (new := msgA m v24) own25.out new17_25.out
            have k7' := new17_25.out.row (msgA m v24)
            have kb' := blk_row (new := msgA m v24) kb25 new17_25.out hb7
            have gW' := below_setRow (gW25.out) (show w3.heap.size ≤ (w3.heap.size) from lt17.out) (msgA m v24)
            refine hK.out _ _ kb' (fun _ => ?_)
            clear hK K
            (try simp only [Act.put, List.setIfInBounds_toArray])
            refine wpAnyH_ready (rs := [8]) (by kernel_rfl) (by simp) ?_
            refine AllReadyH.cons (o := _) rfl (fun K hK => ?_) AllReadyH.nil
            refine wp_store_row 27 _ _ rfl (w3.heap.size + 1) (msgA (cleanM m (ofKind m.k (rowsIn ver))) v25) rfl rfl 27 _ k8' (by kernel_rfl) rfl (msgA_all _ (tx_own t4')) ?_
            refine hK.out _ _ (blk_row kb' k8' hb8) (fun _ => ?_)
            clear hK K
            (try simp only [Act.put])
            refine wpAnyH_done (by kernel_rfl) ?_ _
            go_wp2_with fail
            go_meet
            exact ⟨(w3.heap.size), (w3.heap.size + 1), v24, v25, rfl, rfl, blk_row k7' k8' (Ne.symm hne), k8'.row _, own_row o1' k8', tx_own (own_row t4' k8'), below_setRow gW' lt23.out _⟩
          exact AllReadyH.nil
        exact AllReadyH.nil
      exact AllReadyH.nil
    refine AllReadyH.cons (o := _) rfl (fun K hK => ?_) ?_
    · skip
      have g26 := grew_alloc w3.drew (.cells #[.int .u8 0, .int .u64 0, .int .u64 0, .int .u64 0, .int .u64 0, .int .u64 0, .int .u64 0, .string ⟨#[]⟩, .string ⟨#[]⟩, .slice none 0 0] 27)
      have new26 : RowKit.Hid (Blk (w3.drew.alloc (.cells #[.int .u8 0, .int .u64 0, .int .u64 0, .int .u64 0, .int .u64 0, .int .u64 0, .int .u64 0, .string ⟨#[]⟩, .string ⟨#[]⟩, .slice none 0 0] 27)) (w3.heap.size) 27 #[.int .u8 0, .int .u64 0, .int .u64 0, .int .u64 0, .int .u64 0, .int .u64 0, .int .u64 0, .string ⟨#[]⟩, .string ⟨#[]⟩, .slice none 0 0]) := Lib.hid (Blk.at (by simp))
      have gW26 := Lib.hid (Grew.trans gW0.out g26)
      have kb26 := kb0.grew g26
      have lt26 := Lib.hid (show w3.heap.size ≤ w3.heap.size from by have := gW0.out.size; (try simp at this); omega)
      go_simp
      clear g26
      refine hK.out _ _ kb26 (fun _ => ?_)
      clear hK K
      (try simp only [Act.put, List.setIfInBounds_toArray, List.set_cons_zero, List.set_cons_succ])
      refine wpAnyH_ready (rs := [1, 5]) (by kernel_rfl) (by simp) ?_
      refine AllReadyH.cons (o := _) rfl (fun K hK => ?_) ?_
      · skip
        go_simp
        refine (KP.out _ (G3.out.trans gW26.out) HLN.out).mono ?_
        rintro e27 wa27 ⟨v27, rfl, o27, g27, -⟩
        have own27 := Lib.hid (own_mono (base' := w.heap.size) o27 (Nat.le_trans G3.out.size gW26.out.size))
        have gW27 := Lib.hid (Grew.trans gW26.out g27)
        have kb27 := kb26.grew g27
        have new26_27 := Lib.hid ((new26).out.grew g27)
        clear g27 o27
        refine hK.out _ _ kb27 (fun _ => ?_)
        clear hK K
        (try simp only [Act.put, List.setIfInBounds_toArray, List.set_cons_zero, List.set_cons_succ])
        refine wpAnyH_ready (rs := [4, 5]) (by kernel_rfl) (by simp) ?_
        refine AllReadyH.cons (o := _) rfl (fun K hK => ?_) ?_
        · skip
          go_simp
          refine (KCL.out _ (G3.out.trans gW27.out) HLN.out).mono ?_
          rintro e28 wa28 ⟨v28, rfl, o28, g28, -⟩
          have own28 := Lib.hid (own_mono (base' := w.heap.size) o28 (Nat.le_trans G3.out.size gW27.out.size))
          have gW28 := Lib.hid (Grew.trans gW27.out g28)
          have kb28 := kb27.grew g28
          have own27_28 := Lib.hid (own_grew own27.out g28)
          have new26_28 := Lib.hid ((new26_27).out.grew g28)
          clear g28 o28
          refine hK.out _ _ kb28 (fun _ => ?_)
          clear hK K
          (try simp only [Act.put, List.setIfInBounds_toArray, List.set_cons_zero, List.set_cons_succ])
          refine wpAnyH_ready (rs := [5]) (by kernel_rfl) (by simp) ?_
          refine AllReadyH.cons (o := _) rfl (fun K hK => ?_) ?_
          · skip
            have g29 := grew_alloc wa28 (.cells #[.int .u8 0, .int .u64 0, .int .u64 0, .int .u64 0, .int .u64 0, .int .u64 0, .int .u64 0, .string ⟨#[]⟩, .string ⟨#[]⟩, .slice none 0 0] 27)
            have new29 : RowKit.Hid (Blk (wa28.alloc (.cells #[.int .u8 0, .int .u64 0, .int .u64 0, .int .u64 0, .int .u64 0, .int .u64 0, .int .u64 0, .string ⟨#[]⟩, .string ⟨#[]⟩, .slice none 0 0] 27)) (wa28.heap.size) 27 #[.int .u8 0, .int .u64 0, .int .u64 0, .int .u64 0, .int .u64 0, .int .u64 0, .int .u64 0, .string ⟨#[]⟩, .string ⟨#[]⟩, .slice none 0 0]) := Lib.hid (Blk.at (by simp))
            have gW29 := Lib.hid (Grew.trans gW28.out g29)
            have kb29 := kb28.grew g29
            have lt29 := Lib.hid (show w3.heap.size ≤ wa28.heap.size from by have := gW28.out.size; (try simp at this); omega)
            go_simp
            have ne29 := Lib.hid (show (w3.heap.size) ≠ wa28.heap.size from by have := (new26_28).out.lt; (try simp at this); omega)
            have own27_29 := Lib.hid (own_grew own27_28.out g29)
            have own28_29 := Lib.hid (own_grew own28.out g29)
            have new26_29 := Lib.hid ((new26_28).out.grew g29)
            clear g29
            refine hK.out _ _ kb29 (fun _ => ?_)
            clear hK K
            (try simp only [Act.put, List.setIfInBounds_toArray, List.set_cons_zero, List.set_cons_succ])
            refine wpAnyH_ready (rs := [7]) (by kernel_rfl) (by simp) ?_
            refine AllReadyH.cons (o := _) rfl (fun K hK => ?_) AllReadyH.nil
            refine wp_store_row 27 _ _ rfl (wa28.heap.size) (msgA m v27) rfl rfl 27 _ new29.out (by kernel_rfl) rfl (msgA_all _ (tx_own own27_29.out)) ?_
            have hne : (w3.heap.size) ≠ (wa28.heap.size) := (ne29.out)
            have hb7 : w.heap.size ≠ (wa28.heap.size) := (by have := HWZ.out; have := lt29.out; omega)
            have hb8 : w.heap.size ≠ (w3.heap.size) := (by have := HWZ.out; have := lt26.out; omega)
            have k8' := blk_row (new := msgA m v27) new26_29.out new29.out hne
            have o1' := own_row (new := msgA m v27) own27_29.out new29.out
            have t4' := own_row (new := msgA m v27) own28_29.out new29.out
            have k7' := new29.out.row (msgA m v27)
            have kb' := blk_row (new := msgA m v27) kb29 new29.out hb7
            have gW' := below_setRow (gW29.out) (show w3.heap.size ≤ (wa28.heap.size) from lt29.out) (msgA m v27)
            refine hK.out _ _ kb' (fun _ => ?_)
            clear hK K
            (try simp only [Act.put, List.setIfInBounds_toArray])
            refine wpAnyH_ready (rs := [8]) (by kernel_rfl) (by simp) ?_
            refine AllReadyH.cons (o := _) rfl (fun K hK => ?_) AllReadyH.nil
            refine wp_store_row 27 _ _ rfl (w3.heap.size) (msgA (cleanM m (ofKind m.k (rowsIn ver))) v28) rfl rfl 27 _ k8' (by kernel_rfl) rfl (msgA_all _ (tx_own t4')) ?_
            refine hK.out _ _ (blk_row kb' k8' hb8) (fun _ => ?_)
            clear hK K
            (try simp only [Act.put])
            refine wpAnyH_done (by kernel_rfl) ?_ _
            go_wp2_with fail
            go_meet
            exact ⟨(wa28.heap.size), (w3.heap.size), v27, v28, rfl, rfl, blk_row k7' k8' (Ne.symm hne), k8'.row _, own_row o1' k8', tx_own (own_row t4' k8'), below_setRow gW' lt26.out _⟩
          exact AllReadyH.nil
        refine AllReadyH.cons (o := _) rfl (fun K hK => ?_) ?_
        · skip
          have g30 := grew_alloc wa27 (.cells #[.int .u8 0, .int .u64 0, .int .u64 0, .int .u64 0, .int .u64 0, .int .u64 0, .int .u64 0, .string ⟨#[]⟩, .string ⟨#[]⟩, .slice none 0 0] 27)
          have new30 : RowKit.Hid (Blk (wa27.alloc (.cells #[.int .u8 0, .int .u64 0, .int .u64 0, .int .u64 0, .int .u64 0, .int .u64 0, .int .u64 0, .string ⟨#[]⟩, .string ⟨#[]⟩, .slice none 0 0] 27)) (wa27.heap.size) 27 #[.int .u8 0, .int .u64 0, .int .u64 0, .int .u64 0, .int .u64 0, .int .u64 0, .int .u64 0, .string ⟨#[]⟩, .string ⟨#[]⟩, .slice none 0 0]) := Lib.hid (Blk.at (by simp))
          have gW30 := Lib.hid (Grew.trans gW27.out g30)
          have kb30 := kb27.grew g30
          have lt30 := Lib.hid (show w3.heap.size ≤ wa27.heap.size from by have := gW27.out.size; (try simp at this); omega)
          go_simp
          have ne30 := Lib.hid (show (w3.heap.size) ≠ wa27.heap.size from by have := (new26_27).out.lt; (try simp at this); omega)
          have own27_30 := Lib.hid (own_grew own27.out g30)
          have new26_30 := Lib.hid ((new26_27).out.grew g30)
          clear g30
          refine hK.out _ _ kb30 (fun _ => ?_)
          clear hK K
          (try simp only [Act.put, List.setIfInBounds_toArray, List.set_cons_zero, List.set_cons_succ])
          refine wpAnyH_ready (rs := [4]) (by kernel_rfl) (by simp) ?_
          refine AllReadyH.cons (o := _) rfl (fun K hK => ?_) ?_
          · skip
            go_simp
            refine (KCL.out _ (G3.out.trans gW30.out) HLN.out).mono ?_
            rintro e31 wa31 ⟨v31, rfl, o31, g31, -⟩
            have own31 := Lib.hid (own_mono (base' := w.heap.size) o31 (Nat.le_trans G3.out.size gW30.out.size))
            have gW31 := Lib.hid (Grew.trans gW30.out g31)
            have kb31 := kb30.grew g31
            have own27_31 := Lib.hid (own_grew own27_30.out g31)
            have new30_31 := Lib.hid ((new30).out.grew g31)
            have new26_31 := Lib.hid ((new26_30).out.grew g31)
            clear g31 o31
            refine hK.out _ _ kb31 (fun _ => ?_)
            clear hK K
            (try simp only [Act.put, List.setIfInBounds_toArray, List.set_cons_zero, List.set_cons_succ])
            refine wpAnyH_ready (rs := [7]) (by kernel_rfl) (by simp) ?_
            refine AllReadyH.cons (o := _) rfl (fun K hK => ?_) AllReadyH.nil
            refine wp_store_row 27 _ _ rfl (wa27.heap.size) (msgA m v27) rfl rfl 27 _ new30_31.out (by kernel_rfl) rfl (msgA_all _ (tx_own own27_31.out)) ?_
            have hne : (w3.heap.size) ≠ (wa27.heap.size) := (ne30.out)
            have hb7 : w.heap.size ≠ (wa27.heap.size) := (by have := HWZ.out; have := lt30.out; omega)
            have hb8 : w.heap.size ≠ (w3.heap.size) := (by have := HWZ.out; have := lt26.out; omega)
            have k8' := blk_row (new := msgA m v27) new26_31.out new30_31.out hne
            have o1' := own_row (new := msgA m v27) own27_31.out new30_31.out
            have t4' := own_row (new := msgA m v27) own31.out new30_31.out
            have k7' := new30_31.out.row (msgA m v27)
            have kb' := blk_row (new := msgA m v27) kb31 new30_31.out hb7
            have gW' := below_setRow (gW31.out) (show w3.heap.size ≤ (wa27.heap.size) from lt30.out) (msgA m v27)
            refine hK.out _ _ kb' (fun _ => ?_)
            clear hK K
            (try simp only [Act.put, List.setIfInBounds_toArray])
            refine wpAnyH_ready (rs := [8]) (by kernel_rfl) (by simp) ?_
            refine AllReadyH.cons (o := _) rfl (fun K hK => ?_) AllReadyH.nil
            refine wp_store_row 27 _ _ rfl (w3.heap.size) (msgA (cleanM m (ofKind m.k (rowsIn ver))) v31) rfl rfl 27 _ k8' (by kernel_rfl) rfl (msgA_all _ (tx_own t4')) ?_
            refine hK.out _ _ (blk_row kb' k8' hb8) (fun _ => ?_)
            clear hK K
            (try simp only [Act.put])
            refine wpAnyH_done (by kernel_rfl) ?_ _
            go_wp2_with fail
            go_meet
            exact ⟨(wa27.heap.size), (w3.heap.size), v27, v31, rfl, rfl, blk_row k7' k8' (Ne.symm hne), k8'.row _, own_row o1' k8', tx_own (own_row t4' k8'), below_setRow gW' lt26.out _⟩
          exact AllReadyH.nil
        exact AllReadyH.nil
      refine AllReadyH.cons (o := _) rfl (fun K hK => ?_) ?_
      · skip
        have g32 := grew_alloc (w3.drew.alloc (.cells #[.int .u8 0, .int .u64 0, .int .u64 0, .int .u64 0, .int .u64 0, .int .u64 0, .int .u64 0, .string ⟨#[]⟩, .string ⟨#[]⟩, .slice none 0 0] 27)) (.cells #[.int .u8 0, .int .u64 0, .int .u64 0, .int .u64 0, .int .u64 0, .int .u64 0, .int .u64 0, .string ⟨#[]⟩, .string ⟨#[]⟩, .slice none 0 0] 27)
        have new32 : RowKit.Hid (Blk ((w3.drew.alloc (.cells #[.int .u8 0, .int .u64 0, .int .u64 0, .int .u64 0, .int .u64 0, .int .u64 0, .int .u64 0, .string ⟨#[]⟩, .string ⟨#[]⟩, .slice none 0 0] 27)).alloc (.cells #[.int .u8 0, .int .u64 0, .int .u64 0, .int .u64 0, .int .u64 0, .int .u64 0, .int .u64 0, .string ⟨#[]⟩, .string ⟨#[]⟩, .slice none 0 0] 27)) (w3.heap.size + 1) 27 #[.int .u8 0, .int .u64 0, .int .u64 0, .int .u64 0, .int .u64 0, .int .u64 0, .int .u64 0, .string ⟨#[]⟩, .string ⟨#[]⟩, .slice none 0 0]) := Lib.hid (Blk.at (by simp))
        have gW32 := Lib.hid (Grew.trans gW26.out g32)
        have kb32 := kb26.grew g32
        have lt32 := Lib.hid (show w3.heap.size ≤ w3.heap.size + 1 from by have := gW26.out.size; (try simp at this); omega)
        go_simp
        have ne32 := Lib.hid (show (w3.heap.size) ≠ w3.heap.size + 1 from by have := (new26).out.lt; (try simp at this); omega)
        have new26_32 := Lib.hid ((new26).out.grew g32)
        clear g32
        refine hK.out _ _ kb32 (fun _ => ?_)
        clear hK K
        (try simp only [Act.put, List.setIfInBounds_toArray, List.set_cons_zero, List.set_cons_succ])
        refine wpAnyH_ready (rs := [1]) (by kernel_rfl) (by simp) ?_
        refine AllReadyH.cons (o := _) rfl (fun K hK => ?_) ?_
        · skip
          go_simp
          refine (KP.out _ (G3.out.trans gW32.out) HLN.out).mono ?_
          rintro e33 wa33 ⟨v33, rfl, o33, g33, -⟩
          have own33 := Lib.hid (own_mono (base' := w.heap.size) o33 (Nat.le_trans G3.out.size gW32.out.size))
          have gW33 := Lib.hid (Grew.trans gW32.out g33)
          have kb33 := kb32.grew g33
          have new32_33 := Lib.hid ((new32).out.grew g33)
          have new26_33 := Lib.hid ((new26_32).out.grew g33)
          clear g33 o33
          refine hK.out _ _ kb33 (fun _ => ?_)
          clear hK K
          (try simp only [Act.put, List.setIfInBounds_toArray, List.set_cons_zero, List.set_cons_succ])
          refine wpAnyH_ready (rs := [4]) (by kernel_rfl) (by simp) ?_
          refine AllReadyH.cons (o := _) rfl (fun K hK => ?_) ?_
          · skip
            go_simp
            refine (KCL.out _ (G3.out.trans gW33.out) HLN.out).mono ?_
            rintro e34 wa34 ⟨v34, rfl, o34, g34, -⟩
            have own34 := Lib.hid (own_mono (base' := w.heap.size) o34 (Nat.le_trans G3.out.size gW33.out.size))
            have gW34 := Lib.hid (Grew.trans gW33.out g34)
            have kb34 := kb33.grew g34
            have own33_34 := Lib.hid (own_grew own33.out g34)
            have new32_34 := Lib.hid ((new32_33).out.grew g34)
            have new26_34 := Lib.hid ((new26_33).out.grew g34)
            clear g34 o34
            refine hK.out _ _ kb34 (fun _ => ?_)
            clear hK K
            (try simp only [Act.put, List.setIfInBounds_toArray, List.set_cons_zero, List.set_cons_succ])
            refine wpAnyH_ready (rs := [7]) (by kernel_rfl) (by simp) ?_
            refine AllReadyH.cons (o := _) rfl (fun K hK => ?_) AllReadyH.nil
            refine wp_store_row 27 _ _ rfl (w3.heap.size + 1) (msgA m v33) rfl rfl 27 _ new32_34.out (by kernel_rfl) rfl (msgA_all _ (tx_own own33_34.out)) ?_
            have hne : (w3.heap.size) ≠ (w3.heap.size + 1) := (ne32.out)
            have hb7 : w.heap.size ≠ (w3.heap.size + 1) := (by have := HWZ.out; have := lt32.out; omega)
            have hb8 : w.heap.size ≠ (w3.heap.size) := (by have := HWZ.out; have := lt26.out; omega)
            have k8' := blk_row (new := msgA m v33) new26_34.out new32_34.out hne
            have o1' := own_row (new := msgA m v33) own33_34.out new32_34.out
            have t4' := own_row (new := msgA m v33) own34.out new32_34.out
            have k7' := new32_34.out.row (msgA m v33)
            have kb' := blk_row (new := msgA m v33) kb34 new32_34.out hb7
            have gW' := below_setRow (gW34.out) (show w3.heap.size ≤ (w3.heap.size + 1) from lt32.out) (msgA m v33)
            refine hK.out _ _ kb' (fun _ => ?_)
            clear hK K
            (try simp only [Act.put, List.setIfInBounds_toArray])
            refine wpAnyH_ready (rs := [8]) (by kernel_rfl) (by simp) ?_
            refine AllReadyH.cons (o := _) rfl (fun K hK => ?_) AllReadyH.nil
            refine wp_store_row 27 _ _ rfl (w3.heap.size) (msgA (cleanM m (ofKind m.k (rowsIn ver))) v34) rfl rfl 27 _ k8' (by kernel_rfl) rfl (msgA_all _ (tx_own t4')) ?_
            refine hK.out _ _ (blk_row kb' k8' hb8) (fun _ => ?_)
            clear hK K
            (try simp only [Act.put])
            refine wpAnyH_done (by kernel_rfl) ?_ _
            go_wp2_with fail
            go_meet
            exact ⟨(w3.heap.size + 1), (w3.heap.size), v33, v34, rfl, rfl, blk_row k7' k8' (Ne.symm hne), k8'.row _, own_row o1' k8', tx_own (own_row t4' k8'), below_setRow gW' lt26.out _⟩
          exact AllReadyH.nil
        exact AllReadyH.nil
      exact AllReadyH.nil
    exact AllReadyH.nil
  case rest =>
    obtain ⟨p7, p8, v, d, rfl, rfl, h7, h8, ho7, ht8, gx⟩ := hcut
    have Q1 := Lib.hid (K7.out.grew gx)
    have Q2 := Lib.hid (K8.out.grew gx)
    have GX := Lib.hid (G3.out.trans gx)
    have HO := Lib.hid ho7
    have KS1 := Lib.hid (fun W (g : Grew w W) => vsame_any m n (.slice a m.l.length c) (.slice b n.l.length d0) W (HL.out.grew g) (HU.out.grew g))
    have KS2 := Lib.hid (fun W (g : Grew w W) => rsame9_any m n (.slice a m.l.length c) (.slice b n.l.length d0) W (HL.out.grew g) (HU.out.grew g))
    have KS3 := Lib.hid (fun W (g : Grew wc W) => rsame9_any m m v (.slice a m.l.length c) W ((tx_own ho7).grew g) (HL.out.grew (GX.out.trans g)))
    have KCR := Lib.hid (fun W => rclean_any m a c ver W)
    have KS4 := Lib.hid (fun W (g : Grew wc W) => rsame9_any (cleanM m (ofKind m.k (rowsIn ver))) (cleanM m (ofKind m.k (rowsIn ver))) d (clLv (ofKind m.k (rowsIn ver)) (.slice a m.l.length c)) W (ht8.grew g) (clLv_tx (HL.out.grew (GX.out.trans g))))
    rw [sameB_rfl'] at KS3 KS4
    obtain ⟨a7, c7, rfl⟩ := tx_len (tx_own ho7)
    generalize ofKind m.k (rowsIn ver) = L at h8 KCR KS4 ht8
    generalize sameB m n = S at KS1 KS2
    have hss : (S != S) = false := by cases S <;> rfl
    simp only [clA, msgA] at h7 h8 KS1 KS2 KS3 KCR KS4
    have Q7 := Lib.hid h7
    have Q8 := Lib.hid h8
    clear h7 h8 ho7 ht8 gx K7 K8 G3 KS KT KP KCL
    go_upto_region 6 with (fail)
    refine wp_region_grew wc (Below.refl _ _) (by kernel_rfl) (by kernel_rfl) ?_
    repeat (
      refine BigFrame.wpQuiet_want (by kernel_rfl) (fun K hK => ?_)
      first
        | (refine q_row 27 _ rfl w.heap.size rfl 27 _ _ Q1.out Try.underlying27 rfl (by kernel_rfl) (hK _ ?_))
        | (refine q_row 27 _ rfl (w.heap.size + 1) rfl 27 _ _ Q2.out Try.underlying27 rfl (by kernel_rfl) (hK _ ?_))
        | (refine q_row 27 _ rfl p7 rfl 27 _ _ Q7.out Try.underlying27 rfl (by kernel_rfl) (hK _ ?_))
        | (refine q_row 27 _ rfl p8 rfl 27 _ _ Q8.out Try.underlying27 rfl (by kernel_rfl) (hK _ ?_))
        | (apply Exists.intro
           apply And.intro
           · intro W hW
             go_simp
             first
               | done
               | rfl
               | with_reducible exact q_calls hW (KS1.out W (GX.out.trans hW.out)) (fun _ _ h => h)
               | with_reducible exact q_calls hW (KS2.out W (GX.out.trans hW.out)) (fun _ _ h => h)
               | with_reducible exact q_calls hW (KS3.out W hW.out) (fun _ _ h => h)
               | with_reducible exact q_calls hW (KCR.out W) (fun _ _ h => h)
               | with_reducible exact q_calls hW (KS4.out W hW.out) (fun _ _ h => h)
           refine hK _ ?_)
      clear hK K
      simp only [Act.put, List.setIfInBounds_toArray, List.set_cons_zero, List.set_cons_succ])
    refine wpQuiet_nil ?_
    intro w4 g4
    have R1 := Lib.hid (Q1.out.grew g4.out)
    have R7 := Lib.hid (Q7.out.grew g4.out)
    have HO4 := Lib.hid (own_grew HO.out g4.out)
    have G4 := Lib.hid (GX.out.trans g4.out)
    clear Q1 Q2 Q7 Q8 g4 HO KS1 KS2 KS3 KCR KS4 hss
    have x9 := R7.out.cell 9
    have y9 := R1.out.cell 9
    simp only [List.getElem?_toArray, List.getElem?_cons_zero, List.getElem?_cons_succ] at x9 y9
    obtain ⟨LL, hLL⟩ : ∃ LL, LL = m.l := ⟨_, rfl⟩
    rw [← hLL] at x9 y9 HL HO4 R1 R7
    cases LL with
    | nil =>
      have hz0 : ¬ 0 < m.l.length := by rw [← hLL]; simp
      have hz1 : ¬ (0 : Int) < (m.l.length : Int) := by omega
      clear hLL
      go_wp2
      go_ret
      exact ⟨rfl, G4.out⟩
    | cons s LL =>
      obtain ⟨a', c', e, -, -, -, hcc⟩ := HL.out.open
      cases e
      obtain ⟨b1, o1, rfl, hcl⟩ := hcc (by simp)
      have x0 := (below_ext G4.out) _ _ (hcl 0 (.string s) rfl)
      simp only [Nat.add_zero] at x0
      have hb1 := cell_lt (hcl 0 (.string s) rfl)
      obtain ⟨-, hr⟩ := id HO4.out
      rcases hr with ⟨hv, -⟩ | ⟨g, cap, cur, hv, hbg, hg, -⟩
      · exfalso; simp at hv
      simp only [Value.slice.injEq] at hv
      obtain ⟨rfl, -, rfl⟩ := hv
      obtain ⟨a2, c2, e, -, -, -, hcc2⟩ := (tx_own HO4.out).open
      cases e
      obtain ⟨b2, o2, e, hcl2⟩ := hcc2 (by simp)
      cases e
      have z0 := hcl2 0 (.string s) rfl
      simp only [Nat.add_zero] at z0
      have f0 : w4.frozen? ⟨g, 0, none⟩ = false := frozen_of_row w4 g 0 cur _ hg
      have hne : g ≠ p7 := fun e => by
        have := R7.out; unfold Blk at this; rw [← e, hg] at this; simp at this
      have hne1 : g ≠ w.heap.size := fun e => by
        have := R1.out; unfold Blk at this; rw [← e, hg] at this; simp at this
      have R7' := R7.out.other ⟨g, 0, none⟩ (.string (s ++ ⟨#[120]⟩)) (Ne.symm hne)
      have R1' := R1.out.other ⟨g, 0, none⟩ (.string (s ++ ⟨#[120]⟩)) (Ne.symm hne1)
      have hst : (s.toList == s.toList) = true := by simp
      have G5 := Lib.hid (grew_set (b := g) (j := 0) G4.out hbg (.string (s ++ ⟨#[120]⟩)))
      have hb2 : b1 ≠ g := by simp at hb1; omega
      have hpos : 0 < m.l.length := by rw [← hLL]; simp
      have hsz : ¬ 9223372036854775807 < s.size + 1 := by have := HSM.out s (by rw [← hLL]; exact List.mem_cons_self ..); omega
      clear hcc hcc2 hcl hcl2 hg hb1 hLL
      go_wp2
      go_ret
      exact ⟨rfl, G5.out⟩
end Go.Proofs.Ytcjmnpcghmcodaa
