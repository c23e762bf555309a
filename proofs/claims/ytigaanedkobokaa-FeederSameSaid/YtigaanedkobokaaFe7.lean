/- rescriptlaw15.live holds; small. -/
import Derived.Test.YtigaanedkobokaaFe6
namespace Go.Proofs.Ytigaanedkobokaa
open Go Go.RowKit Go.Shelf

def lp1 : List UInt8 := (fput (7, [1])).take 4
def lp2 : List UInt8 := (fput (7, [1])).drop 4
theorem l15a : fdOut [] lp1 0 false = [] ∧ fdK [] lp1 false = lp1 ∧ fdN [] lp1 0 false = 0 ∧ lp1.length = 4 := by decide +kernel
theorem l15b : fdOut lp1 lp2 0 false = [(0, (7, [1]))] ∧ fdK lp1 lp2 false = [] ∧ fdN lp1 lp2 0 false = 10 ∧ lp2.length = 6 := by decide +kernel
theorem l15c : fdEnd [] 10 false = [] := by decide +kernel
theorem l15d : (fput (7, [1])).length = 10 := by decide +kernel
theorem FdS.base_le {t : TypeId} {base : Nat} {F : Nat → Prop} {w : World} {p : Nat} {K : List UInt8} {n : Nat} {over : Bool} (h : FdS t base F w p K n over) : ∀ k, F k → base ≤ k := fun k hk => (h.own k hk).1
/-- a call on a feeder that lies above a world leaves that world as it was -/
theorem FdP.up {t : TypeId} {base : Nat} {F : Nat → Prop} {p : Nat} {K K0 : List UInt8} {n n0 : Nat} {over over0 : Bool} {w0 w w' : World} (h : FdP t base F p K n over w w') (hd : FdS t base F w p K0 n0 over0) (g : Grew w0 w) (hb : w0.heap.size ≤ base) : Grew w0 w' := by
  obtain ⟨F', _, h2, _⟩ := h
  exact h2.grew g (fun i hi => Nat.le_trans hb (hd.base_le i hi))

/-- a byte of a row of the call's own is set -/
theorem ownB_open' {W : World} {base : Nat} {v : Value} {l : List UInt8} (h : OwnB W base v l) (hl : 0 < l.length) : ∃ g cap, v = .slice (some ⟨g, 0, none⟩) l.length cap ∧ base ≤ g ∧ g < W.heap.size ∧ l.length ≤ cap ∧ cap ≤ 9223372036854775807 ∧
    ∀ i (hi : i < l.length), W.cell? ⟨g, i, none⟩ = some (.int .u8 (l[i].toNat : Int)) ∧ W.frozen? ⟨g, i, none⟩ = false ∧ ∀ x : UInt8, OwnB (W.setCell ⟨g, i, none⟩ (.int .u8 (x.toNat : Int))) base v (l.set i x) := by
  obtain ⟨hlen, h⟩ := h
  rcases h with ⟨rfl, h0⟩ | ⟨g, cap, cur, rfl, hb, hg, hn, hc, hs, ht⟩
  · omega
  · have hB : Blk W g 5 cur := hg
    unfold maxLen at hc
    refine ⟨g, cap, rfl, hb, hB.lt, hn, by omega, fun i hi => ⟨?_, hB.frozen i, fun x => ?_⟩⟩
    · rw [hB.cell]
      have := bv_get l i hi
      rw [← ht, List.getElem?_take_of_lt (by omega)] at this
      simpa using this
    · have hB2 := hB.set i (.int .u8 (x.toNat : Int))
      refine ⟨by simp, .inr ⟨g, cap, _, by rw [List.length_set], hb, hB2, by rw [List.length_set]; exact hn, by unfold maxLen; omega, by simpa using hs, ?_⟩⟩
      rw [List.length_set]
      rw [Array.toList_setIfInBounds, List.take_set, ht]
      simp [bv, List.map_set]

set_option maxRecDepth 100000 in
set_option maxHeartbeats 4000000 in
theorem live15_any (w : World) : Calls Try.prog 32 #[] w fun e w' => e = .returned (.bool true) ∧ Grew w w' := by
  have A := Lib.hid l15a
  have B := Lib.hid l15b
  go_enter Try.func32, Try.ntmps32
  go_wp2_with fail
  have p1 := bs_lit w [1] #[.int .u8 1] 1 rfl rfl (by omega)
  have g0 := grew_alloc w (.cells #[.int .u8 1] 5)
  refine (r13put_any (7, [1]) _ _ p1 (by decide)).mono ?_
  rintro e w1 ⟨v1, rfl, r1, g1⟩
  have G1 := g0.trans g1
  obtain ⟨g, c1, rfl, -, -, hc1, hc2, -⟩ := ownB_open' r1 (by rw [l15d]; decide)
  have hb1 : Bs w1 (.slice (some ⟨g, 0, none⟩) 10 c1) (fput (7, [1])) := by
    have h := Sl.of_own r1
    rw [← l15d]; exact h
  rw [l15d] at hc1 ⊢
  have HB1 := Lib.hid hb1
  clear p1 r1 hb1
  go_wp2_with fail
  refine (fnew_any _).mono ?_
  rintro e w2 ⟨rfl, d2, g2⟩
  have D2 := Lib.hid d2
  have G2 := G1.trans g2
  generalize hq : w1.heap.size = q at D2 ⊢
  have HQ := Lib.hid hq
  have b4 : Bs w1 (.slice (some ⟨g, 0, none⟩) 4 c1) lp1 := by
    have h := bs_cut HB1.out 0 4 (by omega) (by omega)
    have e : (0 : Nat) + 0 = 0 := rfl
    exact bs_take (l := fput (7, [1])) (by rw [l15d]; exact HB1.out) 4 (by rw [l15d]; omega)
  have b6 : Bs w1 (.slice (some ⟨g, 4, none⟩) 6 (c1 - 4)) lp2 := by
    have h := bs_drop HB1.out 4 (by omega)
    rw [Nat.zero_add] at h
    exact h
  have B4 := Lib.hid b4
  have B6 := Lib.hid b6
  have hz : ¬ c1 = 4 := by omega
  have hz2 : (4 : Int) ≤ (c1 : Int) := by omega
  clear d2 hq b4 b6
  go_wp2_with fail
  have hqle : w1.heap.size ≤ q := by rw [HQ.out]; exact Nat.le_refl _
  have k3 := ffeed_any q _ q [] lp1 0 false _ w2 D2.out (B4.out.grew g2) (by omega) (by decide +kernel)
  rw [A.out.1, A.out.2.1, A.out.2.2.1] at k3
  refine k3.mono ?_
  clear k3
  rintro e w3 ⟨v3, rfl, Q3⟩
  have u3 := Q3.p.up D2.out g2 hqle
  obtain ⟨F3, b3, d3, -, -, -, r3, -⟩ := Q3
  obtain ⟨a3, n3, c3, rfl, rfl, -, -⟩ := r3.shape
  have D3 := Lib.hid d3
  clear r3 d3
  go_wp2_with fail
  have k4 := fheld_any _ _ _ _ _ _ _ D3.out
  rw [A.out.2.2.2] at k4
  refine k4.mono ?_
  clear k4
  rintro e w4 ⟨rfl, rfl⟩
  go_wp2_with fail
  have k5 := ffeed_any q _ q lp1 lp2 0 false _ w3 D3.out (B6.out.grew u3) (by omega) (by decide +kernel)
  rw [B.out.1, B.out.2.1, B.out.2.2.1] at k5
  refine k5.mono ?_
  clear k5
  rintro e w5 ⟨v5, rfl, Q5⟩
  have u5 := Q5.p.up D3.out u3 hqle
  obtain ⟨F5, b5, d5, -, -, -, r5, k5⟩ := Q5
  have D5 := Lib.hid d5
  obtain ⟨a5, n5, c5, rfl, rfl, -, -⟩ := r5.shape
  have R5 := Lib.hid r5
  have K5 := Lib.hid k5
  clear d5 r5 k5
  go_wp2_with fail
  refine (fheld_any _ _ _ _ _ _ _ D5.out).mono ?_
  rintro e w6 ⟨rfl, rfl⟩
  go_wp2_with fail
  have k7 := fend_any _ _ _ _ _ _ _ D5.out (by omega) (by decide)
  rw [l15c] at k7
  refine k7.mono ?_
  clear k7
  rintro e w7 ⟨v7, rfl, Q7⟩
  have u7 := Q7.p.up D5.out u5 hqle
  obtain ⟨F7, b7, d7, f7, -, -, r7, -⟩ := Q7
  have D7 := Lib.hid d7
  obtain ⟨a7, n7, c7, rfl, rfl, -, -⟩ := r7.shape
  have r5' := R5.out.fr2 f7 K5.out
  obtain ⟨b, o, rfl, hcl⟩ := r5'.frs.cells (by decide)
  obtain ⟨x0, -, -⟩ := hcl 0 (by decide)
  simp only [Nat.zero_mul, Nat.add_zero, List.getElem_cons_zero] at x0
  replace x0 : w7.cell? ⟨b, o, none⟩ = some (.int .i64 0) := x0
  clear d7 r7 hcl r5'
  go_wp2_with fail
  refine (fcame_any _ _ _ _ _ _ _ D7.out (by omega) (by decide)).mono ?_
  rintro e w8 ⟨rfl, D8⟩
  have d8 := Lib.hid (D7.out.grew D8.grew)
  have u8 := u7.trans D8.grew
  clear x0
  go_wp2_with fail
  refine (fover_any _ _ _ _ _ _ _ d8.out).mono ?_
  rintro e w9 ⟨rfl, rfl⟩
  go_wp2_with fail
  refine (ffeed_nil _ _).mono ?_
  rintro e w9 ⟨rfl, rfl⟩
  go_wp2_with fail
  refine (fend_nil _).mono ?_
  rintro e w9 ⟨rfl, rfl⟩
  go_wp2_with fail
  refine (fover_nil _).mono ?_
  rintro e w9 ⟨rfl, rfl⟩
  go_wp2_with fail
  refine (fheld_nil _).mono ?_
  rintro e w9 ⟨rfl, rfl⟩
  go_wp2_with fail
  refine (fcame_nil _).mono ?_
  rintro e w9 ⟨rfl, rfl⟩
  go_wp2
  go_ret
  exact ⟨rfl, G1.trans u8⟩
end Go.Proofs.Ytigaanedkobokaa
