/- rescriptlaw06.live: contract; SkipReads: the walk. -/
import Derived.Test.YtgoaijpckckdnaaSkF
import Derived.Test.YtgoaijpckckdnaaSkH
import Derived.Test.YtgoaijpckckdnaaSkN
import Derived.Test.YtgoaijpckckdnaaSkV
import Derived.Test.YtgoaijpckckdnaaSkW
import Derived.Test.YtgoaijpckckdnaaSkL
import Derived.Test.YtgoaijpckckdnaaSkS
namespace Go.Proofs.Ytgoaijpckckdnaa
open Go Go.RowKit Go.Shelf
attribute [local go_sem] Oper.semAt_some

def lvB : List UInt8 := [8, 5, 18, 1, 97]
def lvC : List UInt8 := [8, 5, 18, 9]
def lv1 : Fld := (1, 0, 5, [], 0)
def lv2 : Fld := (2, 2, 0, [97], 2)
instance : DecidableEq Fld := inferInstanceAs (DecidableEq (Int × Nat × Nat × List UInt8 × Int))
instance : DecidableEq (List Fld) := inferInstance
instance : DecidableEq (List Fld × Nat × Nat) := inferInstance
theorem lv_f : fieldsR lvB = ([lv1, lv2], 0, 0) := by decide +kernel
theorem lv_e : endR lvB 2 = (5, 0, 0) := by decide +kernel
theorem lv_p : putsF 0 [lv1, lv2] = (lvB, 0, 0) := by decide +kernel
theorem lv_x : lastX [lv1, lv2] 2 2 = (lv2, true) := by decide +kernel
theorem lv_c : fieldsR lvC = ([], 4, 3) := by decide +kernel
theorem lv_bs (w : World) (b : Nat) (h : b = w.heap.size) : Bs (w.alloc (.cells #[.int .u8 8, .int .u8 5, .int .u8 18, .int .u8 1, .int .u8 97] 5)) (.slice (some ⟨b, 0, none⟩) 5 5) lvB := h ▸ bs_lit w lvB _ 5 rfl (by kernel_rfl) (by omega)
theorem lv_bc (w : World) (b : Nat) (h : b = w.heap.size) : Bs (w.alloc (.cells #[.int .u8 8, .int .u8 5, .int .u8 18, .int .u8 9] 5)) (.slice (some ⟨b, 0, none⟩) 4 4) lvC := h ▸ bs_lit w lvC _ 4 rfl (by kernel_rfl) (by omega)
theorem lv1_ok : lv1.ok := ⟨by decide, by decide, by decide, by decide⟩
theorem lv2_ok : lv2.ok := ⟨by decide, by decide, by decide, by decide⟩
theorem map_fst2 {α β : Type} {ps : List (α × β)} {a b : α} (h : ps.map (·.1) = [a, b]) : ∃ x y : β, ps = [(a, x), (b, y)] := by
  match ps, h with
  | [], h => simp at h
  | [p], h => simp at h
  | [p, q], h => simp at h; obtain ⟨rfl, rfl⟩ := h; exact ⟨p.2, q.2, rfl⟩
  | p :: q :: r :: t, h => simp at h
set_option maxRecDepth 100000 in
set_option maxHeartbeats 8000000 in
theorem live06_any (w : World) : Calls Try.prog 16 #[] w fun e w' => e = .returned (.bool true) ∧ Grew w w' := by
  go_enter Try.func16, Try.ntmps16
  go_wp2_with fail
  refine (sfields_any lvB _ _ (lv_bs w _ rfl) (by decide)).mono ?_
  rw [lv_f]
  rintro e w1 ⟨v1, rfl, ⟨ps, hps, hV⟩, g1⟩
  obtain ⟨y1, y2, rfl⟩ := map_fst2 hps
  have hF1 := hV.flr
  obtain ⟨ra, rc, rfl, r1, r2, -, r4⟩ := hF1.1.open
  obtain ⟨rb, ro, rfl, -⟩ := r4 (by simp)
  have hok : ∀ p ∈ [((lv1, y1) : FFV), (lv2, y2)], p.1.ok ∧ (fB p.1).length ≤ 100000000 := by
    intro p hp
    simp only [List.mem_cons, List.not_mem_nil, or_false] at hp
    rcases hp with rfl | rfl
    · exact ⟨lv1_ok, (by decide : (fB lv1).length ≤ 100000000)⟩
    · exact ⟨lv2_ok, (by decide : (fB lv2).length ≤ 100000000)⟩
  have gA := grew_alloc w (.cells #[.int .u8 8, .int .u8 5, .int .u8 18, .int .u8 1, .int .u8 97] 5)
  have G1 := gA.trans g1
  have HF := Lib.hid (fun W (hW : Grew w1 W) => hF1.grew hW)
  clear hps hV hF1 r4
  go_wp2_with fail
  refine (send_any lvB _ 2 (by omega) (by omega) _ (lv_bs _ _ (by simp)) (by decide)).mono ?_
  rw [lv_e]
  rintro e w2 ⟨rfl, g2⟩
  have a2 := grew_alloc w1 (.cells #[.int .i64 0, .int .i64 0] 27)
  have b2 : Blk w2 w1.heap.size 27 #[.int .i64 0, .int .i64 0] := ((Blk.new w1 _ _).alloc _).grew g2
  have G2 : Grew w1 w2 := (a2.trans (grew_alloc _ _)).trans g2
  have kp := fun W hW => skPut_any [(lv1, y1), (lv2, y2)] _ W (HF.out W hW) hok (by simp)
  simp only [List.map_cons, List.map_nil, lv_p] at kp
  have KP := Lib.hid kp
  clear g2 a2 kp hok
  go_wp2_with fail
  refine (KP.out _ (G2.trans (grew_alloc _ _))).mono ?_
  rintro e w3 ⟨v3, rfl, ho3, g3⟩
  obtain ⟨a3, n3, c3, rfl, hn3⟩ := bs_shape (Sl.of_own ho3)
  have hn3' : n3 = 5 := hn3.out
  subst hn3'
  have b3 := (b2.alloc (.cells #[.int .i64 0, .int .i64 0] 27)).grew g3
  have b4 : Blk w3 w2.heap.size 27 #[.int .i64 0, .int .i64 0] := (Blk.new w2 _ _).grew g3
  have G3 : Grew w1 w3 := (G2.trans (grew_alloc _ _)).trans g3
  have kl := fun W hW => slast_any [(lv1, y1), (lv2, y2)] _ 2 2 W (HF.out W hW)
  simp only [List.map_cons, List.map_nil, lv_x] at kl
  have KL := Lib.hid kl
  clear ho3 b2 kl
  go_wp2_with fail
  refine (KL.out _ (G3.trans (grew_alloc _ _))).mono ?_
  rintro e w4 ⟨xv, rfl, hx, g4⟩
  obtain ⟨xa, xn, xc, rfl, hxn⟩ := bs_shape hx
  have hxn' : xn = 1 := hxn.out
  subst hxn'
  obtain ⟨xa', xc', xe, -, -, -, x4⟩ := hx.open
  cases xe
  obtain ⟨xb, xo, rfl, x5⟩ := x4 (by decide)
  have x6 := x5 0 (.int .u8 97) rfl
  have f3 := b3.grew (grew_alloc w3 (.cells #[.int .i64 0, .int .i64 0] 27)) |>.grew g4
  have f4 := b4.grew (grew_alloc w3 (.cells #[.int .i64 0, .int .i64 0] 27)) |>.grew g4
  have f5 : Blk w4 w3.heap.size 27 #[.int .i64 0, .int .i64 0] := (Blk.new w3 _ _).grew g4
  have G4 : Grew w1 w4 := (G3.trans (grew_alloc _ _)).trans g4
  have HX4 := Lib.hid hx
  clear b3 b4 hx x4 x5 g3 g4
  simp only [lv2]
  go_wp2_with fail
  refine (sfields_any lvC _ _ (lv_bc _ _ (by simp)) (by decide)).mono ?_
  rw [lv_c]
  rintro e w5 ⟨v5, rfl, ⟨qs, hqs, hV5⟩, g5⟩
  obtain rfl : qs = [] := List.map_eq_nil_iff.1 hqs
  obtain ⟨a5, n5, c5, rfl, hn5⟩ : ∃ a n c, v5 = .slice a n c ∧ n = 0 := by obtain ⟨a, c, e, _⟩ := (Sl.of_own hV5.1).open; exact ⟨a, _, c, e, rfl⟩
  subst hn5
  have g6 := (grew_alloc w4 (.cells #[.int .i64 2, .int .u8 2, .int .u64 0, .slice (some ⟨xb, xo, none⟩) 1 xc, .int .i64 2] 39)).trans ((grew_alloc _ _).trans g5)
  go_upto_region 6 with (fail)
  obtain ⟨W6, hW6⟩ : ∃ W6, W6 = w5.alloc (.cells #[.int .i64 4, .int .i64 3] 27) := ⟨_, rfl⟩
  rw [← hW6]
  have g7 : Grew w5 W6 := by rw [hW6]; exact grew_alloc _ _
  have h3 := (f3.grew g6).grew g7
  have h4 := (f4.grew g6).grew g7
  have h5 := (f5.grew g6).grew g7
  have h7 : Blk W6 w4.heap.size 39 #[.int .i64 2, .int .u8 2, .int .u64 0, .slice (some ⟨xb, xo, none⟩) 1 xc, .int .i64 2] := (((Blk.new w4 _ _).alloc _).grew g5).grew g7
  have h8 : Blk W6 w5.heap.size 27 #[.int .i64 4, .int .i64 3] := by rw [hW6]; exact Blk.new _ _ _
  have x7 := (below_ext (g6.trans g7)) _ _ x6
  have G5 : Grew w1 W6 := (G4.trans g6).trans g7
  have hfl := HF.out W6 G5
  obtain ⟨-, -, j2, -, -, -⟩ := fl_cells hfl 0 (by simp)
  obtain ⟨-, -, -, -, k4, -⟩ := fl_cells hfl 1 (by simp)
  simp only [List.getElem_cons_zero, List.getElem_cons_succ, lv1, lv2] at j2 k4
  have KO := Lib.hid (fun W (hW : Grew W6 W) => skof_any [(lv1, y1), (lv2, y2)] _ 1 W (HF.out W (G5.trans hW)) (by simp))
  have KW := Lib.hid (fun W (hW : Grew W6 W) => skwo_any [(lv1, y1), (lv2, y2)] _ 1 W (HF.out W (G5.trans hW)) (by simp))
  have hcv : (convert 22 9 (.slice (some ⟨xb, xo, none⟩) 1 xc)).run Try.prog W6 = .ok (.string ⟨#[97]⟩) W6 := conv_bs [97] _ _ ((HX4.out.grew g6).grew g7)
  clear f3 f4 f5 hV5 hqs g5 x6 hfl hW6
  obtain ⟨e0, e1, -⟩ := cells_of h3
  obtain ⟨e2, e3, -⟩ := cells_of h4
  obtain ⟨e4, e5, -⟩ := cells_of h5
  obtain ⟨e6, e7, e8, e9, e10, -⟩ := cells5 h7
  obtain ⟨e11, e12, -⟩ := cells_of h8
  have z1 : ro + 0 * 5 + 2 = ro + 2 := by omega
  have z2 : ro + 1 * 5 + 4 = ro + 9 := by omega
  rw [z1] at j2
  rw [z2] at k4
  clear z1 z2
  go_wp2_with fail
  refine (KO.out _ (Below.refl _ _)).mono ?_
  rintro e w7 ⟨v7, rfl, ho7, g8⟩
  obtain ⟨a7, n7, c7, rfl, hn7⟩ : ∃ a n c, v7 = .slice a n c ∧ n = 1 := by obtain ⟨a, c, e, _⟩ := (Sl.of_own ho7).open; exact ⟨a, _, c, e, rfl⟩
  subst hn7
  clear ho7
  go_wp2_with fail
  refine (KW.out _ g8).mono ?_
  rintro e w8 ⟨v8, rfl, ho8, g9⟩
  obtain ⟨a8, n8, c8, rfl, hn8⟩ : ∃ a n c, v8 = .slice a n c ∧ n = 1 := by obtain ⟨a, c, e, _⟩ := (Sl.of_own ho8).open; exact ⟨a, _, c, e, rfl⟩
  subst hn8
  clear ho8
  go_wp2
  go_ret
  exact ⟨rfl, ((G1.trans G5).trans g8).trans g9⟩
end Go.Proofs.Ytgoaijpckckdnaa
