/- lenient.Decode, lenient.Unknown: contracts. -/
import Derived.Test.YtbjoohafgkodcaaGreatWl4
namespace Go.Proofs.YtbjoohafgkodcaaGreat
open Go Go.RowKit Go.Shelf
attribute [local go_sem] Oper.semAt_some

theorem unk_flt (k : Nat) (ver : Int) (b : List UInt8) : (unkM k ver b).2 = (decM k ver b).2 := by
  unfold unkM
  by_cases h : (decM k ver b).2.1 ≠ 0
  · rw [if_pos h]
  · rw [if_neg h]
    exact Prod.ext (by simpa using (show (0 : Nat) = (decM k ver b).2.1 by omega)) (decM_at (by omega)).symm
/-- what Decode returns -/
def DecP (k : Nat) (ver : Int) (l : List UInt8) (w : World) (e : Ending) (w' : World) : Prop :=
  ∃ lv, e = .returned (.tuple #[.agg (msgA (decM k ver l).1 lv), fltI (decM k ver l).2.1 (decM k ver l).2.2]) ∧ OwnT w' w.heap.size lv (decM k ver l).1.l ∧ Grew w w'
/-- what Unknown returns -/
def UnkP (k : Nat) (ver : Int) (l : List UInt8) (w : World) (e : Ending) (w' : World) : Prop :=
  ∃ rv, e = .returned (.tuple #[rv, fltI (unkM k ver l).2.1 (unkM k ver l).2.2]) ∧ FlO w' w.heap.size rv (unkM k ver l).1 ∧ Grew w w'
set_option maxRecDepth 100000 in
set_option maxHeartbeats 4000000 in
theorem ldecode_any (k : Nat) (ver : Int) (l : List UInt8) (v : Value) (w : World) (hb : Bs w v l) (hlen : l.length ≤ 1000000) :
    Calls Tryz.prog 49 #[.int .u8 k, .int .i64 ver, v] w (DecP k ver l w) := by
  obtain ⟨a, c, rfl⟩ := bs_len hb
  obtain ⟨W0, hW0⟩ : ∃ W0, W0 = (w.alloc (.cells zMsg 29)).alloc (.cells #[.int .i64 0, .int .i64 0] 32) := ⟨_, rfl⟩
  have g0 : Grew w W0 := by rw [hW0]; exact ((Below.refl _ _).alloc (Nat.le_refl _) _).alloc (by simp) _
  have k0 : Blk W0 w.heap.size 29 zMsg := by rw [hW0]; exact (Blk.new _ _ _).alloc _
  have k1 : Blk W0 (w.heap.size + 1) 32 #[.int .i64 0, .int .i64 0] := by rw [hW0]; exact Blk.at (by simp)
  have G0 := Lib.hid g0
  have K0 := Lib.hid k0
  have K1 := Lib.hid k1
  have KR := Lib.hid (lread_any k ver l _ W0 (hb.grew g0) hlen)
  obtain ⟨D, hD⟩ : ∃ D, D = decM k ver l := ⟨_, rfl⟩
  unfold ReadP at KR
  rw [← hD] at KR
  have HD := Lib.hid hD
  simp only [zMsg] at hW0
  clear g0 k0 k1 hb hD
  go_enter Tryz.func49, Tryz.ntmps49
  go_wp2_with fail
  rw [← hW0]
  clear hW0
  refine KR.out.mono ?_
  rintro e w1 ⟨lv, rv, rfl, ho, hf, g1⟩
  obtain ⟨al, cl, rfl⟩ := tx_len (Sl.of_own ho)
  obtain ⟨ar, cr, rfl⟩ := hf.frs.shape
  simp only [fltI]
  obtain ⟨wa, hwa⟩ : ∃ wa, wa = (w1.alloc (.cells (msgA D.1 (.slice al D.1.l.length cl)) 29)).alloc (.cells #[.int .i64 (D.2.1 : Nat), .int .i64 D.2.2] 32) := ⟨_, rfl⟩
  have ga : Grew w1 wa := by rw [hwa]; exact ((Below.refl _ _).alloc (Nat.le_refl _) _).alloc (by simp) _
  have ka : Blk wa w1.heap.size 29 (msgA D.1 (.slice al D.1.l.length cl)) := by rw [hwa]; exact (Blk.new _ _ _).alloc _
  have kb : Blk wa (w1.heap.size + 1) 32 #[.int .i64 (D.2.1 : Nat), .int .i64 D.2.2] := by rw [hwa]; exact Blk.at (by simp)
  have B0 := Lib.hid ((K0.out.grew g1).grew ga)
  have B1 := Lib.hid ((K1.out.grew g1).grew ga)
  have HO := Lib.hid (own_grew ho ga)
  have GA := Lib.hid ((G0.out.trans g1).trans ga)
  have hz1 : w.heap.size + 1 < w1.heap.size := (K1.out.grew g1).lt
  have hbo := own_lt ho
  have HBO := Lib.hid hbo
  have hw0 : w.heap.size + 1 < W0.heap.size := K1.out.lt
  simp only [msgA] at hwa ⊢
  clear ga ho g1 hf hbo
  go_upto_region 2 with (fail)
  rw [← hwa]
  clear hwa
  refine wp_region_heldN (S := fun V => Blk V w1.heap.size 29 (msgA D.1 (.slice al D.1.l.length cl)) ∧ Blk V (w1.heap.size + 1) 32 #[.int .i64 (D.2.1 : Nat), .int .i64 D.2.2]) (by kernel_rfl) ⟨ka.drew, kb.drew⟩ (fun hHeld => ?_)
  clear ka kb
  refine wpAnyH_take (i := 0) (oi := ⟨some 19, _, _, _, _, _⟩) (v := .agg (msgA D.1 (.slice al D.1.l.length cl))) rfl (by kernel_rfl) (by kernel_rfl) (by kernel_rfl) (fun _ _ _ h => h) (y_row 29 _ rfl w1.heap.size rfl 29 _ _ (fun V h => h.1) Tryz.underlying29 rfl (by kernel_rfl) rfl) (by assumption) ?_
  simp only [Act.put, List.setIfInBounds_toArray, List.set_cons_zero, List.set_cons_succ]
  refine wpAnyH_take (i := 1) (oi := ⟨some 20, _, _, _, _, _⟩) (v := .agg #[.int .i64 (D.2.1 : Nat), .int .i64 D.2.2]) rfl (by kernel_rfl) (by kernel_rfl) (by kernel_rfl) (fun _ _ _ h => h) (y_row 32 _ rfl (w1.heap.size + 1) rfl 32 _ _ (fun V h => h.2) Tryz.underlying32 rfl (by kernel_rfl) rfl) (by assumption) ?_
  simp only [Act.put, List.setIfInBounds_toArray, List.set_cons_zero, List.set_cons_succ]
  refine wpAnyH_ready (rs := [2]) (by kernel_rfl) (by simp) ?_
  refine AllReadyH.cons (o := _) rfl (fun K hK => ?_) AllReadyH.nil
  refine wp_store_row 29 _ _ rfl w.heap.size (msgA D.1 (.slice al D.1.l.length cl)) rfl rfl 29 _ B0.out.drew (by kernel_rfl) rfl (msgA_one _ _ _ _) ?_
  refine hK.out _ _ ⟨hHeld.1.rowOther (by omega), hHeld.2.rowOther (by omega)⟩ (fun h1 => ?_)
  clear hK K hHeld
  simp only [Act.put]
  refine wpAnyH_ready (rs := [3]) (by kernel_rfl) (by simp) ?_
  refine AllReadyH.cons (o := _) rfl (fun K hK => ?_) AllReadyH.nil
  refine wp_store_pair 32 _ _ rfl (w.heap.size + 1) _ _ rfl rfl 32 _ (B1.out.drew.rowOther (by omega)) (by kernel_rfl) rfl rfl rfl ?_
  refine hK.out _ _ ⟨h1.1.rowOther (by omega), h1.2.rowOther (by omega)⟩ (fun _ => ?_)
  clear hK K h1
  simp only [Act.put]
  refine wpAnyH_done (by kernel_rfl) ?_ _
  have R0 := Lib.hid ((B0.out.drew.row (msgA D.1 (.slice al D.1.l.length cl))).rowOther (b := w.heap.size + 1) (new := #[.int .i64 (D.2.1 : Nat), .int .i64 D.2.2]) (by omega))
  have R1 := Lib.hid ((B1.out.drew.rowOther (b := w.heap.size) (new := msgA D.1 (.slice al D.1.l.length cl)) (by omega)).row #[.int .i64 (D.2.1 : Nat), .int .i64 D.2.2])
  have R2 := Lib.hid (own_block (own_block (own_grew HO.out (Drew.grew ⟨1, rfl⟩ : Grew wa wa.drew)) (w' := wa.drew.setRow w.heap.size (msgA D.1 (.slice al D.1.l.length cl))) (fun g hg => setRow_other _ _ _ _ (fun e => by have := (HBO.out g hg).1; omega))) (w' := (wa.drew.setRow w.heap.size (msgA D.1 (.slice al D.1.l.length cl))).setRow (w.heap.size + 1) #[.int .i64 (D.2.1 : Nat), .int .i64 D.2.2]) (fun g hg => setRow_other _ _ _ _ (fun e => by have := (HBO.out g hg).1; omega)))
  have R3 := Lib.hid (below_setRow (below_setRow (GA.out.trans (Drew.grew ⟨1, rfl⟩ : Grew _ wa.drew)) (Nat.le_refl _) (msgA D.1 (.slice al D.1.l.length cl))) (show w.heap.size ≤ w.heap.size + 1 by omega) #[.int .i64 (D.2.1 : Nat), .int .i64 D.2.2])
  simp only [onlyN]
  go_wp2
  refine bodyPost_ret (results_cc rfl _ _ _ _ _ _ rfl rfl (loadVar_msg _ _ _ _ R0.out) (loadVar_fltI _ _ _ _ R1.out)) rfl ?_
  refine ⟨.slice al D.1.l.length cl, by rw [← HD.out], by rw [← HD.out]; exact own_mono R2.out (by omega), R3.out⟩
theorem post_of {P : Program} {fn : Func} {R : Ending → World → Prop} {a : Act} {w : World} (hd : a.defers = []) (h : ∃ v, (results fn a.tmps).run P w = .ok v w ∧ R (.returned v) w) : bodyPost P fn R .ret a w := by
  obtain ⟨v, h1, h2⟩ := h
  exact bodyPost_ret h1 hd h2
end Go.Proofs.YtbjoohafgkodcaaGreat
