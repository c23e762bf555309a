/- The law ValuePlaces returns true: its walk. -/
import Derived.Test.YtcjmnpcghmcodaaVaa
namespace Go.Proofs.Ytcjmnpcghmcodaa
open Go Go.RowKit Go.Shelf

set_option maxRecDepth 100000 in
set_option maxHeartbeats 16000000 in
theorem places_walk (m : Msg) (v v1 : Value) (x : Int × Int × Int) (sl : Int) (w : World) (hm : MsgR w v m) (hx : v1 = .agg #[.int .i64 x.1, .int .i64 x.2.1, .int .i64 x.2.2]) :
    Calls Try.prog 4 #[v, v1, .int .i64 sl] w fun e w' => e = .returned (.bool true) ∧ Grew w w' := by
  obtain ⟨lv, rfl, hl, ho⟩ := hm
  obtain ⟨nm, ty, pl⟩ := x
  subst hx
  obtain ⟨a, c, rfl⟩ := tx_len hl
  obtain ⟨W0, hW0⟩ : ∃ W0, W0 = (w.alloc (.cells (msgA m (.slice a m.l.length c)) 27)).alloc (.cells #[.int .i64 nm, .int .i64 ty, .int .i64 pl] 36) := ⟨_, rfl⟩
  have g0 : Grew w W0 := by rw [hW0]; exact grew2 _ _ _
  have k1 : Blk W0 w.heap.size 27 (msgA m (.slice a m.l.length c)) := by rw [hW0]; exact (Blk.new _ _ _).alloc _
  have k2 : Blk W0 (w.heap.size + 1) 36 #[.int .i64 nm, .int .i64 ty, .int .i64 pl] := by rw [hW0]; exact Blk.new2 _ _ _ _
  have K1 := Lib.hid k1
  have K2 := Lib.hid k2
  have G0 := Lib.hid g0
  have KD := Lib.hid (fun W => default_any m a c nm ty pl W)
  have KR := Lib.hid (fun W => rdefault_any m a c nm ty pl W)
  generalize defB m ty pl = bb at KD KR
  have KI := Lib.hid (fun W => vint_any m a c sl W)
  have hcase : (∃ E : Int, intV m sl = E ∧ ((∃ k : Nat, k < 6 ∧ sl = k ∧ E = wrap64 (m.n k)) ∨ (sl < 0 ∧ E = 0) ∨ (6 ≤ sl ∧ E = 0))) := by
    refine ⟨_, rfl, ?_⟩
    by_cases h0 : sl < 0
    · exact .inr (.inl ⟨h0, intV_out (.inl h0)⟩)
    by_cases h6 : 6 ≤ sl
    · exact .inr (.inr ⟨h6, intV_out (.inr h6)⟩)
    exact .inl ⟨sl.toNat, by omega, by omega, intV_of (by omega) (by omega)⟩
  obtain ⟨E, hE, hcase⟩ := hcase
  rw [hE] at KI
  simp only [msgA] at hW0 KD KR KI K1 ⊢
  clear k1 k2 g0 hl ho hE
  rcases hcase with ⟨k, hk, rfl, rfl⟩ | ⟨hs, rfl⟩ | ⟨hs, rfl⟩
  · have z0 : (0 : Int) ≤ (k : Int) := by omega
    have z1 : (k : Int) < 6 := by omega
    have HN := Lib.hid (fun (W : World) (h : Blk W w.heap.size 27 (msgA m (.slice a m.l.length c))) => (show W.cell? ⟨w.heap.size, 1 + k, none⟩ = some (.int .u64 (m.n k)) by
      rw [h.cell]
      rcases (show k = 0 ∨ k = 1 ∨ k = 2 ∨ k = 3 ∨ k = 4 ∨ k = 5 by omega) with e | e | e | e | e | e <;> (subst e; rfl)))
    clear hk
    go_enter Try.func4, Try.ntmps4
    go_wp2_with fail
    rw [← hW0]
    (refine (live09_any _).mono ?_)
    rintro e w1 ⟨rfl, g1⟩
    have K1' := Lib.hid (K1.out.grew g1)
    have K2' := Lib.hid (K2.out.grew g1)
    have G1 := Lib.hid (G0.out.trans g1)
    obtain ⟨c0, c1, c2, c3, c4, c5, c6, c7, c8, c9⟩ := msg_cells (m := m) K1'.out
    clear hW0 K1 K2 G0 g1
    go_wp2_with fail
    (refine (KI.out _).mono ?_)
    rintro e w2 ⟨rfl, g2⟩
    have K1 := Lib.hid (K1'.out.grew g2)
    have K2 := Lib.hid (K2'.out.grew g2)
    have G2 := Lib.hid (G1.out.trans g2)
    clear c0 c1 c2 c3 c4 c5 c6 c7 c8 c9 g2
    obtain ⟨c0, c1, c2, c3, c4, c5, c6, c7, c8, c9⟩ := msg_cells (m := m) K1.out
    have c10 := HN.out _ K1.out
    go_wp2
    (refine wp_region_grew w2 (Below.refl _ _) (by kernel_rfl) (by kernel_rfl) ?_)
    repeat (
      refine BigFrame.wpQuiet_want (by kernel_rfl) (fun K hK => ?_)
      first
        | (refine q_row 27 _ rfl w.heap.size rfl 27 _ _ K1.out Try.underlying27 rfl (by kernel_rfl) (hK _ ?_))
        | (refine q_row 36 _ rfl (w.heap.size + 1) rfl 36 _ _ K2.out Try.underlying36 rfl (by kernel_rfl) (hK _ ?_))
        | (apply Exists.intro
           apply And.intro
           · intro W hW
             go_simp
             first
               | done
               | rfl
               | with_reducible exact q_calls hW (KD.out W) (fun _ _ h => h)
               | with_reducible exact q_calls hW (KR.out W) (fun _ _ h => h)
           refine hK _ ?_)
      clear hK K
      simp only [Act.put, List.setIfInBounds_toArray, List.set_cons_zero, List.set_cons_succ])
    (refine wpQuiet_nil ?_)
    intro w3 g3
    have G3 := Lib.hid (G2.out.trans g3.out)
    clear g3
    go_wp2
    go_ret
    exact ⟨rfl, G3.out⟩
  · go_enter Try.func4, Try.ntmps4
    go_wp2_with fail
    rw [← hW0]
    (refine (live09_any _).mono ?_)
    rintro e w1 ⟨rfl, g1⟩
    have K1' := Lib.hid (K1.out.grew g1)
    have K2' := Lib.hid (K2.out.grew g1)
    have G1 := Lib.hid (G0.out.trans g1)
    obtain ⟨c0, c1, c2, c3, c4, c5, c6, c7, c8, c9⟩ := msg_cells (m := m) K1'.out
    clear hW0 K1 K2 G0 g1
    go_wp2_with fail
    (refine (KI.out _).mono ?_)
    rintro e w2 ⟨rfl, g2⟩
    have K1 := Lib.hid (K1'.out.grew g2)
    have K2 := Lib.hid (K2'.out.grew g2)
    have G2 := Lib.hid (G1.out.trans g2)
    clear c0 c1 c2 c3 c4 c5 c6 c7 c8 c9 g2
    obtain ⟨c0, c1, c2, c3, c4, c5, c6, c7, c8, c9⟩ := msg_cells (m := m) K1.out
    go_wp2
    (refine wp_region_grew w2 (Below.refl _ _) (by kernel_rfl) (by kernel_rfl) ?_)
    repeat (
      refine BigFrame.wpQuiet_want (by kernel_rfl) (fun K hK => ?_)
      first
        | (refine q_row 27 _ rfl w.heap.size rfl 27 _ _ K1.out Try.underlying27 rfl (by kernel_rfl) (hK _ ?_))
        | (refine q_row 36 _ rfl (w.heap.size + 1) rfl 36 _ _ K2.out Try.underlying36 rfl (by kernel_rfl) (hK _ ?_))
        | (apply Exists.intro
           apply And.intro
           · intro W hW
             go_simp
             first
               | done
               | rfl
               | with_reducible exact q_calls hW (KD.out W) (fun _ _ h => h)
               | with_reducible exact q_calls hW (KR.out W) (fun _ _ h => h)
           refine hK _ ?_)
      clear hK K
      simp only [Act.put, List.setIfInBounds_toArray, List.set_cons_zero, List.set_cons_succ])
    (refine wpQuiet_nil ?_)
    intro w3 g3
    have G3 := Lib.hid (G2.out.trans g3.out)
    clear g3
    go_wp2
    go_ret
    exact ⟨rfl, G3.out⟩
  · go_enter Try.func4, Try.ntmps4
    go_wp2_with fail
    rw [← hW0]
    (refine (live09_any _).mono ?_)
    rintro e w1 ⟨rfl, g1⟩
    have K1' := Lib.hid (K1.out.grew g1)
    have K2' := Lib.hid (K2.out.grew g1)
    have G1 := Lib.hid (G0.out.trans g1)
    obtain ⟨c0, c1, c2, c3, c4, c5, c6, c7, c8, c9⟩ := msg_cells (m := m) K1'.out
    clear hW0 K1 K2 G0 g1
    go_wp2_with fail
    (refine (KI.out _).mono ?_)
    rintro e w2 ⟨rfl, g2⟩
    have K1 := Lib.hid (K1'.out.grew g2)
    have K2 := Lib.hid (K2'.out.grew g2)
    have G2 := Lib.hid (G1.out.trans g2)
    clear c0 c1 c2 c3 c4 c5 c6 c7 c8 c9 g2
    obtain ⟨c0, c1, c2, c3, c4, c5, c6, c7, c8, c9⟩ := msg_cells (m := m) K1.out
    go_wp2
    (refine wp_region_grew w2 (Below.refl _ _) (by kernel_rfl) (by kernel_rfl) ?_)
    repeat (
      refine BigFrame.wpQuiet_want (by kernel_rfl) (fun K hK => ?_)
      first
        | (refine q_row 27 _ rfl w.heap.size rfl 27 _ _ K1.out Try.underlying27 rfl (by kernel_rfl) (hK _ ?_))
        | (refine q_row 36 _ rfl (w.heap.size + 1) rfl 36 _ _ K2.out Try.underlying36 rfl (by kernel_rfl) (hK _ ?_))
        | (apply Exists.intro
           apply And.intro
           · intro W hW
             go_simp
             first
               | done
               | rfl
               | with_reducible exact q_calls hW (KD.out W) (fun _ _ h => h)
               | with_reducible exact q_calls hW (KR.out W) (fun _ _ h => h)
           refine hK _ ?_)
      clear hK K
      simp only [Act.put, List.setIfInBounds_toArray, List.set_cons_zero, List.set_cons_succ])
    (refine wpQuiet_nil ?_)
    intro w3 g3
    have G3 := Lib.hid (G2.out.trans g3.out)
    clear g3
    go_wp2
    go_ret
    exact ⟨rfl, G3.out⟩
end Go.Proofs.Ytcjmnpcghmcodaa
