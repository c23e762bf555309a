/- LenientReads: the walk. -/
import Derived.Test.YtbjoohafgkodcaaWl9
import Derived.Test.YtbjoohafgkodcaaSkS
namespace Go.Proofs.Ytbjoohafgkodcaa
open Go Go.RowKit Go.Shelf
attribute [local go_sem] Oper.semAt_some

theorem same_refl (a : Msg) : sameB a a = true := sameB_iff.2 ⟨rfl, fun _ _ => rfl, fun _ _ => rfl, rfl⟩
set_option maxRecDepth 100000 in
set_option maxHeartbeats 8000000 in
theorem lreads_walk (k : Nat) (ver : Int) (l : List UInt8) (v : Value) (w : World) (hb : Bs w v l) :
    Calls Try.prog 3 #[.int .u8 k, .int .i64 ver, v] w fun e w' => e = .returned (.bool true) ∧ Grew w w' := by
  obtain ⟨a, c, rfl⟩ := bs_len hb
  have HB := Lib.hid hb
  clear hb
  go_enter Try.func3, Try.ntmps3
  go_wp2_with fail
  refine (live11_any _).mono ?_
  rintro e w1 ⟨rfl, g1⟩
  have G1 := Lib.hid g1
  clear g1
  by_cases hl : 10000 < l.length
  · have q : decide ((l.length : Int) > 10000) = true := decide_eq_true (by omega)
    go_wp2
    go_ret
    exact ⟨rfl, G1.out⟩
  have q : decide ((l.length : Int) > 10000) = false := decide_eq_false (by omega)
  have KD := Lib.hid (fun W (g : Grew w W) => ldecode_any k ver l _ W (HB.out.grew g) (by omega))
  have KR := Lib.hid (fun W (g : Grew w W) => rdecode_any k ver l _ W (HB.out.grew g) (by omega))
  have KU := Lib.hid (fun W (g : Grew w W) => lunknown_any k ver l _ W (HB.out.grew g) (by omega))
  have KV := Lib.hid (fun W (g : Grew w W) => runknown_any k ver l _ W (HB.out.grew g) (by omega))
  unfold DecP at KD KR
  unfold UnkP at KU KV
  obtain ⟨D, hD⟩ : ∃ D, D = decM k ver l := ⟨_, rfl⟩
  obtain ⟨U, hU⟩ : ∃ U, U = unkM k ver l := ⟨_, rfl⟩
  rw [← hD] at KD KR
  rw [← hU] at KU KV
  obtain ⟨Dm, De, Da⟩ := D
  obtain ⟨Ul, Ue, Ua⟩ := U
  simp only [fltI, msgA] at KD KR KU KV
  clear hD hU hl
  go_wp2_with fail
  refine (KD.out _ G1.out).mono ?_
  rintro e w2 ⟨lv, rfl, ho2, g2⟩
  obtain ⟨a2, c2, rfl⟩ := tx_len (Sl.of_own ho2)
  obtain ⟨V2, hV2⟩ : ∃ V, V = (w2.alloc (.cells (msgA Dm (.slice a2 Dm.l.length c2)) 29)).alloc (.cells #[.int .i64 (De : Nat), .int .i64 Da] 32) := ⟨_, rfl⟩
  have gv : Grew w2 V2 := by rw [hV2]; exact grew22 _ _ _
  have KM2 := Lib.hid (show Blk V2 w2.heap.size 29 (msgA Dm (.slice a2 Dm.l.length c2)) by rw [hV2]; exact (Blk.new _ _ _).alloc _)
  have KF2 := Lib.hid (show Blk V2 (w2.heap.size + 1) 32 #[.int .i64 (De : Nat), .int .i64 Da] by rw [hV2]; exact Blk.at (by simp))
  have HO2 := Lib.hid (own_grew ho2 gv)
  have G2 := Lib.hid ((G1.out.trans g2).trans gv)
  simp only [msgA] at hV2
  clear gv ho2 g2
  go_upto_region 6 with (fail)
  rw [← hV2]
  clear hV2
  go_wp2_with fail
  refine (KR.out _ G2.out).mono ?_
  rintro e w3 ⟨lv, rfl, ho3, g3⟩
  obtain ⟨a3, c3, rfl⟩ := tx_len (Sl.of_own ho3)
  obtain ⟨V3, hV3⟩ : ∃ V, V = (w3.alloc (.cells (msgA Dm (.slice a3 Dm.l.length c3)) 29)).alloc (.cells #[.int .i64 (De : Nat), .int .i64 Da] 32) := ⟨_, rfl⟩
  have gv : Grew w3 V3 := by rw [hV3]; exact grew22 _ _ _
  have km3 : Blk V3 w3.heap.size 29 (msgA Dm (.slice a3 Dm.l.length c3)) := by rw [hV3]; exact (Blk.new _ _ _).alloc _
  have kf3 : Blk V3 (w3.heap.size + 1) 32 #[.int .i64 (De : Nat), .int .i64 Da] := by rw [hV3]; exact Blk.at (by simp)
  have gx := g3.trans gv
  have KSM := Lib.hid (rsame9_any Dm Dm _ _ V3 (Sl.of_own (own_grew HO2.out gx)) (Sl.of_own (own_grew ho3 gv)))
  rw [same_refl] at KSM
  have G3 := Lib.hid (G2.out.trans gx)
  obtain ⟨x0, x1, -, -⟩ := cells_of (KF2.out.grew gx)
  obtain ⟨y0, y1, -, -⟩ := cells_of kf3
  obtain ⟨c0, c1, c2', c3', c4, c5, c6, c7, c8, c9⟩ := mcells (KM2.out.grew gx)
  obtain ⟨d0, d1, d2, d3, d4, d5, d6, d7, d8, d9⟩ := mcells km3
  simp only [msgA] at hV3 KSM
  clear gv ho3 g3 gx km3 kf3
  go_upto_region 7 with (fail)
  rw [← hV3]
  clear hV3
  go_wp2_with fail
  refine KSM.out.mono ?_
  rintro e w4 ⟨rfl, g4⟩
  have G4 := Lib.hid (G3.out.trans g4)
  clear g4 x0 x1 y0 y1 c0 c1 c2' c3' c4 c5 c6 c7 c8 c9 d0 d1 d2 d3 d4 d5 d6 d7 d8 d9 KSM
  go_wp2_with fail
  refine (KU.out _ G4.out).mono ?_
  rintro e w5 ⟨rv, rfl, hf5, g5⟩
  obtain ⟨a5, c5, rfl⟩ := hf5.frs.shape
  obtain ⟨V5, hV5⟩ : ∃ V, V = w5.alloc (.cells #[.int .i64 (Ue : Nat), .int .i64 Ua] 32) := ⟨_, rfl⟩
  have gv : Grew w5 V5 := by rw [hV5]; exact grew_alloc _ _
  have KF5 := Lib.hid (show Blk V5 w5.heap.size 32 #[.int .i64 (Ue : Nat), .int .i64 Ua] by rw [hV5]; exact Blk.new _ _ _)
  have HF5 := Lib.hid (hf5.grew gv)
  have G5 := Lib.hid ((G4.out.trans g5).trans gv)
  clear gv hf5 g5
  go_upto_region 10 with (fail)
  rw [← hV5]
  clear hV5
  go_wp2_with fail
  refine (KV.out _ G5.out).mono ?_
  rintro e w6 ⟨rv, rfl, hf6, g6⟩
  obtain ⟨a6, c6, rfl⟩ := hf6.frs.shape
  obtain ⟨V6, hV6⟩ : ∃ V, V = w6.alloc (.cells #[.int .i64 (Ue : Nat), .int .i64 Ua] 32) := ⟨_, rfl⟩
  have gv : Grew w6 V6 := by rw [hV6]; exact grew_alloc _ _
  have kf6 : Blk V6 w6.heap.size 32 #[.int .i64 (Ue : Nat), .int .i64 Ua] := by rw [hV6]; exact Blk.new _ _ _
  have KSF := Lib.hid (same06_any Ul Ul _ _ V6 ((HF5.out.grew (g6.trans gv)).frs) ((hf6.grew gv).frs))
  have G6 := Lib.hid ((G5.out.trans g6).trans gv)
  obtain ⟨x0, x1, -, -⟩ := cells_of (KF5.out.grew (g6.trans gv))
  obtain ⟨y0, y1, -, -⟩ := cells_of kf6
  rw [beq_self_eq_true] at KSF
  clear gv hf6 g6 kf6
  go_upto_region 11 with (fail)
  rw [← hV6]
  clear hV6
  go_wp2_with fail
  refine KSF.out.mono ?_
  rintro e w7 ⟨rfl, g7⟩
  go_wp2
  go_ret
  exact ⟨rfl, G6.out.trans g7⟩
end Go.Proofs.Ytbjoohafgkodcaa
