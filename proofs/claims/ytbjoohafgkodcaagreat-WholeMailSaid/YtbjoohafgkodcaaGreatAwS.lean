/- rescripttop.awakeStream holds. -/
import Derived.Test.YtbjoohafgkodcaaGreatStF
import Derived.Test.YtbjoohafgkodcaaGreatFe4
namespace Go.Proofs.YtbjoohafgkodcaaGreat
open Go Go.RowKit Go.Shelf

def as0 : List UInt8 := fjoin [(1, []), (2, [7])]
def as1 : List UInt8 := as0.take 10
def as2 : List UInt8 := as0.drop 10
def ask : List UInt8 := as1.drop 9
theorem as_len : as0.length = 19 ∧ as1.length = 10 ∧ as2.length = 9 ∧ ask.length = 1 := by decide +kernel
theorem as_a : fdOut [] as1 0 false = [(0, (1, []))] ∧ fdK [] as1 false = ask ∧ fdN [] as1 0 false = 9 := by decide +kernel
theorem as_b : fdOut ask as2 9 false = [(9, (2, [7]))] := by decide +kernel
theorem as_f : framesM [(1, []), (2, [7])] = (as0, 0, 0) := framesM_ok (by decide)
theorem FdP.upS {t : TypeId} {base : Nat} {F : Nat → Prop} {p : Nat} {K K0 : List UInt8} {n n0 : Nat} {over over0 : Bool} {w0 w w' : World} (h : FdP t base F p K n over w w') (hd : FdS t base F w p K0 n0 over0) (g : Grew w0 w) (hb : w0.heap.size ≤ base) : Grew w0 w' := by
  obtain ⟨F', _, h2, _⟩ := h
  exact h2.grew g (fun i hi => Nat.le_trans hb (hd.own i hi).1)
set_option maxRecDepth 100000 in
set_option maxHeartbeats 8000000 in
theorem awakeS_any (w : World) : Calls Tryz.prog 20 #[] w fun e w' => e = .returned (.bool true) ∧ Grew w w' := by
  obtain ⟨e0, e1, e2, e3⟩ := as_len
  have E1 := Lib.hid e1
  have E2 := Lib.hid e2
  have E3 := Lib.hid e3
  have A := Lib.hid as_a
  have B := Lib.hid as_b
  clear e1 e2 e3
  go_enter Tryz.func20, Tryz.ntmps20
  go_wp2_with fail
  have hfs : FsR ((w.alloc (.cells #[.int .u8 7] 5)).alloc (.cells #[.int .u8 1, .slice none 0 0, .int .u8 2, .slice (some ⟨w.heap.size, 0, none⟩) 1 1] 42)) (.slice (some ⟨w.heap.size + 1, 0, none⟩) 2 2) [((1, []), .slice none 0 0), ((2, [7]), .slice (some ⟨w.heap.size, 0, none⟩) 1 1)] :=
    ⟨Sl.lit2 w _ 42 #[.int .u8 1, .slice none 0 0, .int .u8 2, .slice (some ⟨w.heap.size, 0, none⟩) 1 1] 2 2 rfl (by omega), fun x hx => by
      simp only [List.mem_cons, List.not_mem_nil, or_false] at hx
      rcases hx with rfl | rfl
      · exact Sl.nil _ 1
      · exact (bs_lit w [7] #[.int .u8 7] 1 rfl rfl (by omega)).grew (grew_alloc _ _)⟩
  have k1 := sframes_any [((1, []), .slice none 0 0), ((2, [7]), .slice (some ⟨w.heap.size, 0, none⟩) 1 1)] _ _ hfs (by simp)
  simp only [List.map_cons, List.map_nil, as_f] at k1
  refine k1.mono ?_
  rintro e w1 ⟨v1, rfl, o1, g1⟩
  obtain ⟨g, c1, rfl, hgc, hc2⟩ : ∃ g c, v1 = .slice (some ⟨g, 0, none⟩) 19 c ∧ 19 ≤ c ∧ c ≤ 9223372036854775807 := by
    rcases o1.2 with ⟨e, e2⟩ | ⟨g, cap, cur, e, -, -, hn, hc, -, -⟩
    · rw [e0] at e2; cases e2
    · rw [e0] at e hn
      unfold maxLen at hc
      exact ⟨g, cap, e, hn, by omega⟩
  have hb1 : Bs w1 (.slice (some ⟨g, 0, none⟩) as0.length c1) as0 := by rw [e0]; have := Sl.of_own o1; rwa [e0] at this
  have HB1 := Lib.hid hb1
  have G1 := (grew22s w (.cells #[.int .u8 7] 5) (.cells #[.int .u8 1, .slice none 0 0, .int .u8 2, .slice (some ⟨w.heap.size, 0, none⟩) 1 1] 42)).trans g1
  obtain ⟨w2, hw2⟩ : ∃ w2, w2 = w1.alloc (.cells #[.int .i64 0, .int .i64 0] 32) := ⟨_, rfl⟩
  have gB : Grew w1 w2 := by rw [hw2]; exact grew_alloc _ _
  have kF : Blk w2 w1.heap.size 32 #[.int .i64 0, .int .i64 0] := by rw [hw2]; exact Blk.new _ _ _
  have KF := Lib.hid kF
  have G2 := G1.trans gB
  clear hfs k1 o1 hb1 kF g1
  go_upto_region 2 with (fail)
  rw [← hw2]
  clear hw2
  go_wp2_with fail
  refine (fnew_any _).mono ?_
  rintro e w3 ⟨rfl, d3, g3⟩
  have D3 := Lib.hid (d3.grew (Drew.grew ⟨1, rfl⟩ : Grew w3 w3.drew))
  have g3d := g3.trans (Drew.grew ⟨1, rfl⟩ : Grew w3 w3.drew)
  have G3 := G2.trans g3d
  have f0 : w3.cell? ⟨w1.heap.size, 0, none⟩ = some (.int .i64 0) := (KF.out.grew g3).cell 0
  generalize hq : w2.heap.size = q at D3 ⊢
  have HQ := Lib.hid hq
  have b1 : Bs w1 (.slice (some ⟨g, 0, none⟩) 10 c1) as1 := bs_take HB1.out 10 (by rw [e0]; omega)
  have b2 : Bs w1 (.slice (some ⟨g, 10, none⟩) 9 (c1 - 10)) as2 := by
    have h := bs_drop HB1.out 10 (by rw [e0]; omega)
    rw [Nat.zero_add, e0] at h
    exact h
  have B1 := Lib.hid b1
  have B2 := Lib.hid b2
  have hz : ¬ c1 = 10 := by omega
  have hz2 : (10 : Int) ≤ (c1 : Int) := by omega
  have hqle : w2.heap.size ≤ q := by rw [HQ.out]; exact Nat.le_refl _
  have HQL := Lib.hid hqle
  have k3 := ffeed_any q _ q [] as1 0 false _ w3.drew D3.out (B1.out.grew (gB.trans g3d)) (by omega) (by rw [E1.out]; decide)
  rw [A.out.1, A.out.2.1, A.out.2.2] at k3
  have K3 := Lib.hid k3
  clear d3 hq b1 b2 hqle k3
  go_wp2_with fail
  refine wp_region_held_drew (S := fun _ => True) (by kernel_rfl) trivial (fun _ => ?_)
  refine wpAnyH_take (i := 0) (oi := _) (v := ?_) rfl (by kernel_rfl) (by kernel_rfl) (by kernel_rfl) (fun _ _ _ h => h) (Or.inl ⟨by rfl, ?_⟩) trivial ?_
  rotate_left
  · (intro W _; go_simp; try with_reducible rfl)
  (try simp only [Act.put, List.setIfInBounds_toArray])
  refine wpAnyH_take (i := 1) (oi := _) (v := ?_) rfl (by kernel_rfl) (by kernel_rfl) (by kernel_rfl) (fun _ _ _ h => h) (Or.inl ⟨by rfl, ?_⟩) trivial ?_
  rotate_left
  · (intro W _; go_simp; try with_reducible rfl)
  (try simp only [Act.put])
  refine wpAnyH_take (i := 2) (oi := _) (v := ?_) rfl (by kernel_rfl) (by kernel_rfl) (by kernel_rfl) (fun _ _ _ h => h) (Or.inl ⟨by rfl, ?_⟩) trivial ?_
  rotate_left
  · (intro W _; go_simp; try with_reducible rfl)
  (try simp only [Act.put])
  refine wpAnyH_take (i := 4) (oi := _) (v := ?_) rfl (by kernel_rfl) (by kernel_rfl) (by kernel_rfl) (fun _ _ _ h => h) (Or.inl ⟨by rfl, ?_⟩) trivial ?_
  rotate_left
  · (intro W _; go_simp; try with_reducible rfl)
  (try simp only [Act.put])
  refine wpAnyH_take (i := 5) (oi := _) (v := ?_) rfl (by kernel_rfl) (by kernel_rfl) (by kernel_rfl) (fun _ _ _ h => h) (Or.inl ⟨by rfl, ?_⟩) trivial ?_
  rotate_left
  · (intro W _; go_simp; try with_reducible rfl)
  (try simp only [Act.put])
  refine wpAnyH_take (i := 6) (oi := _) (v := ?_) rfl (by kernel_rfl) (by kernel_rfl) (by kernel_rfl) (fun _ _ _ h => h) (Or.inl ⟨by rfl, ?_⟩) trivial ?_
  rotate_left
  · (intro W _; go_simp; try with_reducible rfl)
  (try simp only [Act.put])
  refine wpAnyH_ready (rs := [3]) (by kernel_rfl) (by simp) ?_
  refine AllReadyH.cons (o := _) rfl (fun K hK => ?_) AllReadyH.nil
  go_simp
  refine K3.out.mono ?_
  rintro e w4 ⟨v4, rfl, Q4⟩
  have u4 := Q4.p.upS D3.out g3d HQL.out
  obtain ⟨F4, b4, d4, f4, -, -, r4, l4⟩ := Q4
  obtain ⟨a4, n4, c4, rfl, en4, -, -⟩ := r4.shape
  have D4 := Lib.hid d4
  have EN4 := Lib.hid en4
  clear d4 r4 en4
  go_simp
  refine hK.out _ _ trivial (fun _ => ?_)
  clear hK K
  (try simp only [Act.put, List.setIfInBounds_toArray, List.set_cons_zero, List.set_cons_succ])
  refine wpAnyH_ready (rs := [7]) (by kernel_rfl) (by simp) ?_
  refine AllReadyH.cons (o := _) rfl (fun K hK => ?_) AllReadyH.nil
  go_simp
  have k5 := ffeed_any q _ q ask as2 9 false _ w4 D4.out (B2.out.grew (gB.trans u4)) (by omega) (by rw [E3.out, E2.out]; decide)
  rw [B.out] at k5
  refine k5.mono ?_
  clear k5
  rintro e w5 ⟨v5, rfl, Q5⟩
  have u5 := Q5.p.upS D4.out u4 HQL.out
  obtain ⟨F5, b5, d5, f5, -, -, r5, l5⟩ := Q5
  obtain ⟨a5, n5, c5, rfl, en5, -, -⟩ := r5.shape
  have R5 := Lib.hid r5
  have EN5 := Lib.hid en5
  clear d5 r5 en5
  go_simp
  refine hK.out _ _ trivial (fun _ => ?_)
  clear hK K
  (try simp only [Act.put, List.setIfInBounds_toArray, List.set_cons_zero, List.set_cons_succ])
  refine wpAnyH_tail 8 rfl (by kernel_rfl) (by kernel_rfl) (fun _ => trivial) ?_
  simp only [List.drop_succ_cons, List.drop_zero]
  repeat (quiet_step (fail))
  refine wpQuiet_nil ?_
  rintro _ ⟨nq, rfl⟩
  obtain rfl : n4 = 1 := EN4.out
  obtain rfl : n5 = 1 := EN5.out
  have gq : Grew w5 (w5.drewN nq) := Drew.grew ⟨nq, rfl⟩
  have r5 := R5.out.grew gq
  obtain ⟨b, o, rfl, hcl⟩ := r5.frs.cells (by decide)
  obtain ⟨x0, x1, -⟩ := hcl 0 (by decide)
  simp only [Nat.zero_mul, Nat.add_zero, List.getElem_cons_zero] at x0 x1
  replace x0 : (w5.drewN nq).cell? ⟨b, o, none⟩ = some (.int .i64 9) := x0
  replace x1 : (w5.drewN nq).cell? ⟨b, o + 1, none⟩ = some (.int .u8 2) := x1
  have G6 := (G2.trans u5).trans gq
  clear hcl r5
  go_wp2
  go_ret
  exact ⟨rfl, G6⟩
end Go.Proofs.YtbjoohafgkodcaaGreat
