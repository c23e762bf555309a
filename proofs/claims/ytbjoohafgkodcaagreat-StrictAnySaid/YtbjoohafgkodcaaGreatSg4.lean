/- StrictAny: the walk. -/
import Derived.Test.YtbjoohafgkodcaaGreatSg2
import Derived.Test.YtbjoohafgkodcaaGreatSs5
namespace Go.Proofs.YtbjoohafgkodcaaGreat
open Go Go.RowKit Go.Shelf
attribute [local go_sem] Oper.semAt_some

set_option maxRecDepth 100000 in
set_option maxHeartbeats 8000000 in
theorem sanyl_walk (l : List UInt8) (v : Value) (w : World) (hb : Bs w v l) :
    Calls Tryz.prog 4 #[v] w fun e w' => e = .returned (.bool true) ∧ Grew w w' := by
  obtain ⟨a, c, rfl⟩ := bs_len hb
  have HB := Lib.hid hb
  clear hb
  go_enter Tryz.func4, Tryz.ntmps4
  go_wp2_with fail
  refine (live12_any _).mono ?_
  rintro e w1 ⟨rfl, g1⟩
  have G1 := Lib.hid g1
  clear g1
  by_cases hl : 3000 < l.length
  · have q : decide ((l.length : Int) > 3000) = true := decide_eq_true (by omega)
    go_wp2
    go_ret
    exact ⟨rfl, G1.out⟩
  have q : decide ((l.length : Int) > 3000) = false := decide_eq_false (by omega)
  have KX := Lib.hid (fun W (g : Grew w W) => sany_any l _ W (HB.out.grew g) (by omega))
  have KR := Lib.hid (fun W (g : Grew w W) => r12any_any l _ W (HB.out.grew g) (by omega))
  unfold AnyP at KX KR
  generalize anyM l = Y at KX KR
  obtain ⟨Ym, Yv, Yb⟩ := Y
  simp only [msgA] at KX KR
  clear hl
  go_wp2_with fail
  refine (KX.out _ G1.out).mono ?_
  rintro e w2 ⟨lv2, rfl, ho2, g2⟩
  obtain ⟨a2, c2', rfl⟩ := tx_len (Sl.of_own ho2)
  obtain ⟨V2, hV2⟩ : ∃ V, V = w2.alloc (.cells (msgA Ym (.slice a2 Ym.l.length c2')) 29) := ⟨_, rfl⟩
  have gv : Grew w2 V2 := by rw [hV2]; exact grew_alloc _ _
  have KM2 := Lib.hid (show Blk V2 w2.heap.size 29 (msgA Ym (.slice a2 Ym.l.length c2')) by rw [hV2]; exact Blk.new _ _ _)
  have T2 := Lib.hid (own_grew ho2 gv)
  have M2 := Lib.hid (g2.trans gv)
  have G2 := Lib.hid (G1.out.trans M2.out)
  simp only [msgA] at hV2
  clear gv ho2 g2 KX
  go_upto_region 6 with (fail)
  rw [← hV2]
  clear hV2
  go_wp2_with fail
  refine (KR.out _ G2.out).mono ?_
  rintro e w3 ⟨lv3, rfl, ho3, g3⟩
  obtain ⟨a3, c3', rfl⟩ := tx_len (Sl.of_own ho3)
  obtain ⟨V3, hV3⟩ : ∃ V, V = w3.alloc (.cells (msgA Ym (.slice a3 Ym.l.length c3')) 29) := ⟨_, rfl⟩
  have gv : Grew w3 V3 := by rw [hV3]; exact grew_alloc _ _
  have KM3 := Lib.hid (show Blk V3 w3.heap.size 29 (msgA Ym (.slice a3 Ym.l.length c3')) by rw [hV3]; exact Blk.new _ _ _)
  have T3 := Lib.hid (own_grew ho3 gv)
  have M3 := Lib.hid (g3.trans gv)
  have G3 := Lib.hid (G2.out.trans M3.out)
  obtain ⟨c0, c1, c2, c3, c4, c5, c6, c7, c8, c9⟩ := mcells (KM2.out.grew M3.out)
  obtain ⟨d0, d1, d2, d3, d4, d5, d6, d7, d8, d9⟩ := mcells KM3.out
  have KS := Lib.hid (rsame9_any Ym Ym _ _ V3 (Sl.of_own (own_grew T2.out M3.out)) (Sl.of_own T3.out))
  rw [show sameB Ym Ym = true from same_refl3 Ym] at KS
  simp only [msgA] at KS
  simp only [msgA] at hV3
  clear gv ho3 g3 KR
  go_upto_region 7 with (fail)
  rw [← hV3]
  clear hV3
  go_wp2_with fail
  refine KS.out.mono ?_
  rintro e w4 ⟨rfl, g4⟩
  go_wp2
  go_ret
  exact ⟨rfl, G3.out.trans g4⟩
end Go.Proofs.YtbjoohafgkodcaaGreat
