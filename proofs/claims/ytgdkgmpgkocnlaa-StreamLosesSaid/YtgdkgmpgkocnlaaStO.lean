/- Package stream: rest, one: contracts. -/
import Derived.Test.YtgdkgmpgkocnlaaStI
namespace Go.Proofs.Ytgdkgmpgkocnlaa
open Go Go.RowKit Go.Shelf

theorem srest_any (n kI : Int) (k : Nat) (hkI : kI = (k : Int)) (hk : 0 < k) (hk2 : k ≤ 1000000000000) (_h1 : -9223372036854775808 ≤ n) (_h2 : n ≤ 9223372036854775807) (w : World) :
    Calls Try.prog 22 #[.int .i64 n, .int .i64 kI] w fun e w' => e = .returned (.int .i64 (restN n k : Nat)) ∧ w = w' := by
  subst hkI
  obtain ⟨b1, b2⟩ := tmod_bounds n k hk
  have b3 := tmod_rest n k hk
  rw [← restN_int n hk] at b3
  have hz : ¬ ((k : Int) = 0) := by omega
  have hz2 : ¬ ((k : Int) = -1) := by omega
  have hw1 : IntKind.i64.wrap (Int.tmod n (k : Int)) = Int.tmod n (k : Int) := by rw [IntKind.wrap_i64]; omega
  have hw2 : IntKind.i64.wrap (Int.tmod n (k : Int) + (k : Int)) = Int.tmod n (k : Int) + (k : Int) := by rw [IntKind.wrap_i64]; omega
  have hb := restN_lt n hk
  have hw3 : IntKind.i64.wrap ((restN n k : Nat) : Int) = ((restN n k : Nat) : Int) := by rw [IntKind.wrap_i64]; omega
  go_enter Try.func22, Try.ntmps22
  go_wp2
  go_ret
  exact ⟨rfl, rfl⟩
/-- an edit as it lies, its bytes' slice value beside it -/
abbrev EA := Ed × Value
def edv (x : EA) : List Value := [.int .i64 x.1.kind, .int .i64 x.1.at', .int .i64 x.1.n, .int .i64 x.1.to, x.2]
def edA (e : Ed) (v : Value) : Array Value := #[.int .i64 e.kind, .int .i64 e.at', .int .i64 e.n, .int .i64 e.to, v]
/-- numbers as they may be -/
def Ed.ok (e : Ed) : Prop := (-9223372036854775808 ≤ e.kind ∧ e.kind ≤ 9223372036854775807) ∧ (-9223372036854775808 ≤ e.at' ∧ e.at' ≤ 9223372036854775807) ∧ (-9223372036854775808 ≤ e.n ∧ e.n ≤ 9223372036854775807) ∧ (-9223372036854775808 ≤ e.to ∧ e.to ≤ 9223372036854775807) ∧ e.bytes.length ≤ 1000000000
theorem flip_end {b : List UInt8} {p j : Nat} (h : b.length ≤ p) : flipB b p j = b := by
  unfold flipB
  apply List.ext_getElem (by simp)
  intro i h1 h2
  rw [List.getElem_modify, if_neg (by omega)]
theorem flip_val : ∀ n, n < 256 → ∀ j, j < 8 → bits .xor .u8 ((n : Nat) : Int) (IntKind.u8.wrap (2 ^ j)) = ((UInt8.ofNat n ^^^ ((1 : UInt8) <<< UInt8.ofNat j)).toNat : Int) := by decide +kernel
theorem own_flip {w : World} {base g c : Nat} {b : List UInt8} {p j : Nat} (h : OwnB w base (.slice (some ⟨g, 0, none⟩) b.length c) b) (hp : p < b.length) (hj : j < 8) :
    OwnB (w.setCell ⟨g, p, none⟩ (.int .u8 (bits .xor .u8 ((b[p].toNat : Nat) : Int) (IntKind.u8.wrap (2 ^ j))))) base (.slice (some ⟨g, 0, none⟩) b.length c) (flipB b p j) := by
  have hll : (flipB b p j).length = b.length := flip_len b p j
  rw [OwnB, hll]
  rcases h.2 with ⟨e, e2⟩ | ⟨g', cap, cur, e, hb, hg, hn, hc, hs, ht⟩
  · omega
  · simp only [Value.slice.injEq] at e
    obtain ⟨e1, -, rfl⟩ := e
    obtain rfl : g = g' := by simpa using e1
    have hB : Blk w g 5 cur := hg
    refine ⟨by rw [bv_length, hll, Nat.mul_one], .inr ⟨g, c, _, rfl, hb, hB.set p _, hn, hc, by simpa using hs, ?_⟩⟩
    rw [Nat.mul_one] at ht ⊢
    rw [Array.toList_setIfInBounds, List.take_set, ht, flip_val _ (b[p]).toNat_lt j hj]
    apply List.ext_getElem (by simp [hll])
    intro i h1 h2
    rw [List.getElem_set]
    simp only [bv, flipB, List.getElem_map, List.getElem_modify]
    split
    · rename_i hpi
      subst hpi
      simp
    · rfl
/-- what is cut out of a row of the call's own, as the model spells it -/
theorem pay_sub {w : World} {base : Nat} {ab : Option Addr} {cb : Nat} {b : List UInt8} (hb : OwnB w base (.slice ab b.length cb) b) {i j k : Nat} (hij : i ≤ j) (hjl : j ≤ b.length) (hjk : j ≤ k) (hkc : k ≤ cb) (v : Value)
    (hv : ((k = i ∨ i = 0) ∧ v = .slice ab (j - i) (k - i)) ∨ v = .slice (ab.map fun x => x.add i) (j - i) (k - i)) : PayV w base v ((b.drop i).take (j - i)) := by
  have hbs := Sl.of_own hb
  have hpl : ∀ g, Value.blk v = some g → base ≤ g ∧ ∃ cs, Blk w g 5 cs := by
    intro g hg
    refine (PayV.of_own hb).2 g ?_
    rcases hv with ⟨-, rfl⟩ | rfl
    · cases ab with
      | none => cases hg
      | some a => exact hg
    · cases ab with
      | none => cases hg
      | some a =>
        have : (a.add i).block = g := Option.some.inj hg
        rw [add_block] at this
        show some a.block = some g
        rw [this]
  refine ⟨?_, hpl⟩
  have hll : ((b.drop i).take (j - i)).length = j - i := by rw [List.length_take, List.length_drop]; omega
  unfold Bs
  rw [hll]
  obtain ⟨q0, a, cap, e, q1, q2, q3, q4⟩ := hbs
  simp only [Value.slice.injEq] at e
  obtain ⟨rfl, -, rfl⟩ := e
  have hbv : bv ((b.drop i).take (j - i)) = ((bv b).drop i).take (j - i) := by simp [bv]
  have hcell : ∀ ad, ab = some ad → ∀ x u, (bv ((b.drop i).take (j - i)))[x]? = some u → w.cell? ((ad.add i).add x) = some u := by
    intro ad had x u hx
    have hx2 := (List.getElem?_eq_some_iff.1 hx).1
    rw [bv_length, hll] at hx2
    rw [hbv, List.getElem?_take_of_lt hx2, List.getElem?_drop] at hx
    have := q4 ad had (i + x) u hx
    obtain ⟨g, cap2, cur, e2⟩ : ∃ g o s, ad = ⟨g, o, s⟩ := ⟨_, _, _, rfl⟩
    subst e2
    rcases hb.2 with ⟨e3, -⟩ | ⟨g', cap', cur', e3, -⟩
    · simp only [Value.slice.injEq] at e3
      rw [e3.1] at had; cases had
    · simp only [Value.slice.injEq] at e3
      rw [e3.1] at had
      cases had
      rw [Addr.add_lit] at this ⊢
      rw [Addr.add_lit]
      rwa [Nat.add_assoc]
  refine ⟨by rw [bv_length, hll, Nat.mul_one], ?_⟩
  rcases hv with ⟨h1, rfl⟩ | rfl
  · refine ⟨ab, k - i, rfl, by omega, by omega, fun h => by have := q3 h; omega, ?_⟩
    intro ad had x u hx
    by_cases h0 : i = 0
    · subst h0
      have := hcell ad had x u hx
      have e4 : ad.add 0 = ad := by
        rcases hb.2 with ⟨e3, -⟩ | ⟨g', cap', cur', e3, -⟩
        · simp only [Value.slice.injEq] at e3
          rw [e3.1] at had; cases had
        · simp only [Value.slice.injEq] at e3
          rw [e3.1] at had
          cases had
          rw [Addr.add_lit]
      rwa [e4] at this
    · have hx2 := (List.getElem?_eq_some_iff.1 hx).1
      rw [bv_length, hll] at hx2
      omega
  · refine ⟨_, k - i, rfl, by omega, by omega, fun h => ?_, ?_⟩
    · have := q3 (by cases ab with | none => rfl | some a => cases h)
      omega
    · intro ad had x u hx
      cases ab with
      | none => cases had
      | some a =>
        obtain rfl : a.add i = ad := Option.some.inj had
        exact hcell a rfl x u hx
theorem pay_head {w : World} {base : Nat} {ab : Option Addr} {cb : Nat} {b : List UInt8} (hb : OwnB w base (.slice ab b.length cb) b) (hc : b.length ≤ cb) {p : Nat} (hp : p ≤ b.length) : PayV w base (.slice ab p p) (b.take p) :=
  pay_sub hb (i := 0) (j := p) (k := p) (by omega) hp (by omega) (by omega) _ (.inl ⟨.inr rfl, rfl⟩)
theorem pay_own {w : World} {base : Nat} {ab : Option Addr} {cb : Nat} {b : List UInt8} (hb : OwnB w base (.slice ab b.length cb) b) (hc : b.length ≤ cb) {p c : Nat} (hp : p + c ≤ b.length) (v : Value)
    (hv : (c = 0 ∧ v = .slice ab c c) ∨ v = .slice (ab.map fun x => x.add p) c c) : PayV w base v ((b.drop p).take c) := by
  have := pay_sub hb (i := p) (j := p + c) (k := p + c) (by omega) hp (by omega) (by omega) v (by rw [Nat.add_sub_cancel_left]; rcases hv with ⟨h, e⟩ | e; exact .inl ⟨.inl (by omega), e⟩; exact .inr e)
  rwa [Nat.add_sub_cancel_left] at this
theorem pay_tail {w : World} {base : Nat} {ab : Option Addr} {cb : Nat} {b : List UInt8} (hb : OwnB w base (.slice ab b.length cb) b) (hc : b.length ≤ cb) {q : Nat} (hq : q ≤ b.length) (v : Value)
    (hv : (cb = q ∧ v = .slice ab (b.length - q) 0) ∨ v = .slice (ab.map fun x => x.add q) (b.length - q) (cb - q)) : PayV w base v (b.drop q) := by
  have := pay_sub hb (i := q) (j := b.length) (k := cb) hq (by omega) hc (by omega) v (by rcases hv with ⟨h, e⟩ | e; exact .inl ⟨.inl h, by rw [e, h, Nat.sub_self]⟩; exact .inr e)
  rwa [List.take_of_length_le (by rw [List.length_drop]; exact Nat.le_refl _)] at this
/-- a call of slices.Concat on a row of slices that was just laid -/
theorem concat_lit (ps : List (Value × List UInt8)) (n : Nat) (hn : ps.length = n) (hn2 : n ≤ 1000) (vs : Array Value) (hvs : vs = (ps.map (·.1)).toArray) (t : TypeId) (w : World) (hp : ∀ p ∈ ps, Bs w p.1 p.2) (hlen : (catl ps).length ≤ 1000000000000) :
    Calls Try.prog 24 #[.slice (some ⟨w.heap.size, 0, none⟩) n n] (w.alloc (.cells vs t)) fun e w' => ∃ v, e = .returned v ∧ OwnB w' w.heap.size v (catl ps) ∧ Grew w w' := by
  subst hvs
  subst hn
  have h1 := Sl.lit w t (0, 0) (ps.map (·.1)).toArray ps.length 1 (by simp) (by unfold maxLen; omega)
  refine (concat_any ps _ _ (by simpa using h1) (fun p h => (hp p h).grew (grew_alloc _ _)) hlen).mono ?_
  rintro e w' ⟨v, rfl, ho, hg⟩
  exact ⟨v, rfl, own_mono ho (by simp), (grew_alloc _ _).trans hg⟩
set_option maxRecDepth 100000 in
set_option maxHeartbeats 8000000 in
theorem sone_0 (base : Nat) (b : List UInt8) (e : Ed) (vb ve : Value) (w : World) (hb : OwnB w base vb b) (he : Bs w ve e.bytes) (hok : e.ok) (hlen : b.length ≤ 1048576) (_hbase : base ≤ w.heap.size) (h1 : e.kind ≠ 1) (h2 : e.kind ≠ 2) (h3 : e.kind ≠ 3) (h4 : e.kind ≠ 4) (h5 : e.kind ≠ 5) :
    Calls Try.prog 18 #[vb, .agg (edA e ve)] w fun x w' => ∃ v', x = .returned v' ∧ OwnB w' base v' (oneM b e) ∧ Grew w w' := by
  obtain ⟨kd, at', n, to, bytes⟩ := e
  simp only at h1 h2 h3 h4 h5
  obtain ⟨-, ok2, ok3, ok4, ok5⟩ := hok
  simp only at ok2 ok3 ok4 ok5 he
  obtain ⟨ab, cb, rfl, hc1, hc2⟩ : ∃ a c, vb = .slice a b.length c ∧ b.length ≤ c ∧ c ≤ 9223372036854775807 := by
    obtain ⟨a, c, e, q1, q2, _⟩ := (Sl.of_own hb).open
    unfold maxLen at q2
    exact ⟨a, c, e, q1, by omega⟩
  obtain ⟨ae, ce, rfl⟩ := bs_len he
  obtain ⟨e, hed⟩ : ∃ e : Ed, e = ⟨kd, at', n, to, bytes⟩ := ⟨_, rfl⟩
  have hp := eAt_le b e
  have hc := eN_le b e
  have e1 : restN at' (b.length + 1) = eAt b e := by rw [hed]; rfl
  have e2 : restN n (b.length - eAt b e + 1) = eN b e := by rw [hed]; rfl
  have K1 := Lib.hid (fun W kI hkI => srest_any at' kI (b.length + 1) hkI (by omega) (by omega) ok2.1 ok2.2 W)
  have K2 := Lib.hid (fun W kI hkI => srest_any n kI (b.length - eAt b e + 1) hkI (by omega) (by omega) ok3.1 ok3.2 W)
  rw [e1] at K1
  rw [e2] at K2
  rw [← hed]
  have HB := Lib.hid hb
  have HE := Lib.hid he
  have hM : oneM b e = b := by unfold oneM; rw [hed]; simp only [h1, h2, h3, h4, h5, if_false]
  have HM := Lib.hid hM
  clear hM e1 e2 hb he
  generalize hpp : eAt b e = p at *
  generalize hcc : eN b e = c at *
  clear hpp hcc
  rw [HM.out]
  simp only [edA, hed]
  clear hed
  have z1 : (p : Int) ≤ (b.length : Int) := by omega
  have z2 : (p : Int) + (c : Int) ≤ (b.length : Int) := by omega
  have z4 : (p : Int) + (c : Int) ≤ (cb : Int) := by omega
  have z5 : (p : Int) ≤ (cb : Int) := by omega
  have z6 : ((p : Int) + (c : Int)).toNat = p + c := by omega
  have z7 : IntKind.i64.wrap ((p : Int) + (c : Int)) = (p : Int) + (c : Int) := by rw [IntKind.wrap_i64]; omega
  have z8 : (0 : Int) ≤ (p : Int) + (c : Int) := by omega
  have hcases : (c = 0 ∧ cb = p + c) ∨ (c = 0 ∧ ¬ cb = p) ∨ (¬ p + c = p ∧ cb = p + c) ∨ (¬ p + c = p ∧ ¬ cb = p + c) := by omega
  rcases hcases with ⟨rfl, hcb⟩ | ⟨rfl, hcb⟩ | ⟨hc0, rfl⟩ | ⟨hc0, hcb⟩
  · obtain rfl : p = b.length := by omega
    obtain rfl : cb = b.length := by omega
    clear hcb
    go_enter Try.func18, Try.ntmps18
    go_wp2_with fail
    refine (K1.out _ _ (by omega)).mono ?_
    rintro x w1 ⟨rfl, rfl⟩
    go_wp2_with fail
    refine (K2.out _ _ (by omega)).mono ?_
    rintro x w1 ⟨rfl, rfl⟩
    go_wp2_with fail
    go_quiet (fail)
    obtain ⟨W0, hW0⟩ : ∃ W0, W0 = (w.alloc (.cells #[.int .i64 kd, .int .i64 at', .int .i64 n, .int .i64 to, .slice ae bytes.length ce] 32)).drewN nq := ⟨_, rfl⟩
    have gW : Grew w W0 := by rw [hW0]; exact (grew_alloc w _).trans (Drew.grew ⟨nq, rfl⟩)
    have kW : Blk W0 w.heap.size 32 #[.int .i64 kd, .int .i64 at', .int .i64 n, .int .i64 to, .slice ae bytes.length ce] := by rw [hW0]; exact (Blk.new w _ _).drewN nq
    rw [← hW0]
    clear hW0
    have x0 : W0.cell? ⟨w.heap.size, 0, none⟩ = some (.int .i64 kd) := kW.cell 0
    have x3 : W0.cell? ⟨w.heap.size, 3, none⟩ = some (.int .i64 to) := kW.cell 3
    have x4 : W0.cell? ⟨w.heap.size, 4, none⟩ = some (.slice ae bytes.length ce) := kW.cell 4
    go_wp2
    go_ret
    exact ⟨_, rfl, own_grew HB.out gW, gW⟩
  · go_enter Try.func18, Try.ntmps18
    go_wp2_with fail
    refine (K1.out _ _ (by omega)).mono ?_
    rintro x w1 ⟨rfl, rfl⟩
    go_wp2_with fail
    refine (K2.out _ _ (by omega)).mono ?_
    rintro x w1 ⟨rfl, rfl⟩
    go_wp2_with fail
    go_quiet (fail)
    obtain ⟨W0, hW0⟩ : ∃ W0, W0 = (w.alloc (.cells #[.int .i64 kd, .int .i64 at', .int .i64 n, .int .i64 to, .slice ae bytes.length ce] 32)).drewN nq := ⟨_, rfl⟩
    have gW : Grew w W0 := by rw [hW0]; exact (grew_alloc w _).trans (Drew.grew ⟨nq, rfl⟩)
    have kW : Blk W0 w.heap.size 32 #[.int .i64 kd, .int .i64 at', .int .i64 n, .int .i64 to, .slice ae bytes.length ce] := by rw [hW0]; exact (Blk.new w _ _).drewN nq
    rw [← hW0]
    clear hW0
    have x0 : W0.cell? ⟨w.heap.size, 0, none⟩ = some (.int .i64 kd) := kW.cell 0
    have x3 : W0.cell? ⟨w.heap.size, 3, none⟩ = some (.int .i64 to) := kW.cell 3
    have x4 : W0.cell? ⟨w.heap.size, 4, none⟩ = some (.slice ae bytes.length ce) := kW.cell 4
    go_wp2
    go_ret
    exact ⟨_, rfl, own_grew HB.out gW, gW⟩
  · go_enter Try.func18, Try.ntmps18
    go_wp2_with fail
    refine (K1.out _ _ (by omega)).mono ?_
    rintro x w1 ⟨rfl, rfl⟩
    go_wp2_with fail
    refine (K2.out _ _ (by omega)).mono ?_
    rintro x w1 ⟨rfl, rfl⟩
    go_wp2_with fail
    go_quiet (fail)
    obtain ⟨W0, hW0⟩ : ∃ W0, W0 = (w.alloc (.cells #[.int .i64 kd, .int .i64 at', .int .i64 n, .int .i64 to, .slice ae bytes.length ce] 32)).drewN nq := ⟨_, rfl⟩
    have gW : Grew w W0 := by rw [hW0]; exact (grew_alloc w _).trans (Drew.grew ⟨nq, rfl⟩)
    have kW : Blk W0 w.heap.size 32 #[.int .i64 kd, .int .i64 at', .int .i64 n, .int .i64 to, .slice ae bytes.length ce] := by rw [hW0]; exact (Blk.new w _ _).drewN nq
    rw [← hW0]
    clear hW0
    have x0 : W0.cell? ⟨w.heap.size, 0, none⟩ = some (.int .i64 kd) := kW.cell 0
    have x3 : W0.cell? ⟨w.heap.size, 3, none⟩ = some (.int .i64 to) := kW.cell 3
    have x4 : W0.cell? ⟨w.heap.size, 4, none⟩ = some (.slice ae bytes.length ce) := kW.cell 4
    go_wp2
    go_ret
    exact ⟨_, rfl, own_grew HB.out gW, gW⟩
  · go_enter Try.func18, Try.ntmps18
    go_wp2_with fail
    refine (K1.out _ _ (by omega)).mono ?_
    rintro x w1 ⟨rfl, rfl⟩
    go_wp2_with fail
    refine (K2.out _ _ (by omega)).mono ?_
    rintro x w1 ⟨rfl, rfl⟩
    go_wp2_with fail
    go_quiet (fail)
    obtain ⟨W0, hW0⟩ : ∃ W0, W0 = (w.alloc (.cells #[.int .i64 kd, .int .i64 at', .int .i64 n, .int .i64 to, .slice ae bytes.length ce] 32)).drewN nq := ⟨_, rfl⟩
    have gW : Grew w W0 := by rw [hW0]; exact (grew_alloc w _).trans (Drew.grew ⟨nq, rfl⟩)
    have kW : Blk W0 w.heap.size 32 #[.int .i64 kd, .int .i64 at', .int .i64 n, .int .i64 to, .slice ae bytes.length ce] := by rw [hW0]; exact (Blk.new w _ _).drewN nq
    rw [← hW0]
    clear hW0
    have x0 : W0.cell? ⟨w.heap.size, 0, none⟩ = some (.int .i64 kd) := kW.cell 0
    have x3 : W0.cell? ⟨w.heap.size, 3, none⟩ = some (.int .i64 to) := kW.cell 3
    have x4 : W0.cell? ⟨w.heap.size, 4, none⟩ = some (.slice ae bytes.length ce) := kW.cell 4
    go_wp2
    go_ret
    exact ⟨_, rfl, own_grew HB.out gW, gW⟩
set_option maxRecDepth 100000 in
set_option maxHeartbeats 8000000 in
theorem sone_1 (base : Nat) (b : List UInt8) (e : Ed) (vb ve : Value) (w : World) (hb : OwnB w base vb b) (he : Bs w ve e.bytes) (hok : e.ok) (hlen : b.length ≤ 1048576) (hbase : base ≤ w.heap.size) (hk : e.kind = 1) :
    Calls Try.prog 18 #[vb, .agg (edA e ve)] w fun x w' => ∃ v', x = .returned v' ∧ OwnB w' base v' (oneM b e) ∧ Grew w w' := by
  obtain ⟨kd, at', n, to, bytes⟩ := e
  obtain rfl : kd = 1 := hk
  obtain ⟨-, ok2, ok3, ok4, ok5⟩ := hok
  simp only at ok2 ok3 ok4 ok5 he
  obtain ⟨ab, cb, rfl, hc1, hc2⟩ : ∃ a c, vb = .slice a b.length c ∧ b.length ≤ c ∧ c ≤ 9223372036854775807 := by
    obtain ⟨a, c, e, q1, q2, _⟩ := (Sl.of_own hb).open
    unfold maxLen at q2
    exact ⟨a, c, e, q1, by omega⟩
  obtain ⟨ae, ce, rfl⟩ := bs_len he
  obtain ⟨e, hed⟩ : ∃ e : Ed, e = ⟨1, at', n, to, bytes⟩ := ⟨_, rfl⟩
  have hp := eAt_le b e
  have hc := eN_le b e
  have e1 : restN at' (b.length + 1) = eAt b e := by rw [hed]; rfl
  have e2 : restN n (b.length - eAt b e + 1) = eN b e := by rw [hed]; rfl
  have K1 := Lib.hid (fun W kI hkI => srest_any at' kI (b.length + 1) hkI (by omega) (by omega) ok2.1 ok2.2 W)
  have K2 := Lib.hid (fun W kI hkI => srest_any n kI (b.length - eAt b e + 1) hkI (by omega) (by omega) ok3.1 ok3.2 W)
  rw [e1] at K1
  rw [e2] at K2
  rw [← hed]
  have HB := Lib.hid hb
  have HE := Lib.hid he
  have hM : oneM b e = flipB b (eAt b e) (restN to 8) := by
    unfold oneM
    rw [hed]
    simp only [if_true]
  have hj := restN_lt to (k := 8) (by omega)
  have K5 := Lib.hid (fun W kI hkI => srest_any to kI 8 hkI (by omega) (by omega) ok4.1 ok4.2 W)
  generalize restN to 8 = j at hM K5 hj
  have HM := Lib.hid hM
  clear hM e1 e2 hb he
  generalize hpp : eAt b e = p at *
  generalize hcc : eN b e = c at *
  clear hpp hcc
  rw [HM.out]
  simp only [edA, hed]
  clear hed
  have z1 : (p : Int) ≤ (b.length : Int) := by omega
  have z2 : (p : Int) + (c : Int) ≤ (b.length : Int) := by omega
  have z4 : (p : Int) + (c : Int) ≤ (cb : Int) := by omega
  have z5 : (p : Int) ≤ (cb : Int) := by omega
  have z6 : ((p : Int) + (c : Int)).toNat = p + c := by omega
  have z7 : IntKind.i64.wrap ((p : Int) + (c : Int)) = (p : Int) + (c : Int) := by rw [IntKind.wrap_i64]; omega
  have z8 : (0 : Int) ≤ (p : Int) + (c : Int) := by omega
  have hcases : (c = 0 ∧ cb = p + c) ∨ (c = 0 ∧ ¬ cb = p) ∨ (¬ p + c = p ∧ cb = p + c) ∨ (¬ p + c = p ∧ ¬ cb = p + c) := by omega
  rcases hcases with ⟨rfl, hcb⟩ | ⟨rfl, hcb⟩ | ⟨hc0, rfl⟩ | ⟨hc0, hcb⟩
  · obtain rfl : p = b.length := by omega
    obtain rfl : cb = b.length := by omega
    clear hcb
    go_enter Try.func18, Try.ntmps18
    go_wp2_with fail
    refine (K1.out _ _ (by omega)).mono ?_
    rintro x w1 ⟨rfl, rfl⟩
    go_wp2_with fail
    refine (K2.out _ _ (by omega)).mono ?_
    rintro x w1 ⟨rfl, rfl⟩
    go_wp2_with fail
    go_quiet (fail)
    obtain ⟨W0, hW0⟩ : ∃ W0, W0 = (w.alloc (.cells #[.int .i64 1, .int .i64 at', .int .i64 n, .int .i64 to, .slice ae bytes.length ce] 32)).drewN nq := ⟨_, rfl⟩
    have gW : Grew w W0 := by rw [hW0]; exact (grew_alloc w _).trans (Drew.grew ⟨nq, rfl⟩)
    have kW : Blk W0 w.heap.size 32 #[.int .i64 1, .int .i64 at', .int .i64 n, .int .i64 to, .slice ae bytes.length ce] := by rw [hW0]; exact (Blk.new w _ _).drewN nq
    rw [← hW0]
    clear hW0
    have x0 : W0.cell? ⟨w.heap.size, 0, none⟩ = some (.int .i64 1) := kW.cell 0
    have x3 : W0.cell? ⟨w.heap.size, 3, none⟩ = some (.int .i64 to) := kW.cell 3
    have x4 : W0.cell? ⟨w.heap.size, 4, none⟩ = some (.slice ae bytes.length ce) := kW.cell 4
    go_wp2_with fail
    refine (sclone_any b _ W0 ((Sl.of_own HB.out).grew gW) (by omega)).mono ?_
    rintro x w2 ⟨v2, rfl, o2, g2⟩
    obtain ⟨a2, c2, rfl⟩ := bs_len (Sl.of_own o2)
    have gW2 := gW.trans g2
    have y3 := (below_ext g2) _ _ x3
    have O2 := Lib.hid o2
    by_cases hlt : b.length < b.length
    · exact absurd hlt (Nat.lt_irrefl _)
    · have hfe : flipB b b.length j = b := flip_end (by omega)
      have hz9 : (b.length : Int) ≤ ((b.length : Nat) : Int) := by omega
      clear o2
      go_wp2
      go_ret
      exact ⟨_, rfl, by rw [hfe]; exact own_mono O2.out (by have := gW.size; omega), gW2⟩
  · go_enter Try.func18, Try.ntmps18
    go_wp2_with fail
    refine (K1.out _ _ (by omega)).mono ?_
    rintro x w1 ⟨rfl, rfl⟩
    go_wp2_with fail
    refine (K2.out _ _ (by omega)).mono ?_
    rintro x w1 ⟨rfl, rfl⟩
    go_wp2_with fail
    go_quiet (fail)
    obtain ⟨W0, hW0⟩ : ∃ W0, W0 = (w.alloc (.cells #[.int .i64 1, .int .i64 at', .int .i64 n, .int .i64 to, .slice ae bytes.length ce] 32)).drewN nq := ⟨_, rfl⟩
    have gW : Grew w W0 := by rw [hW0]; exact (grew_alloc w _).trans (Drew.grew ⟨nq, rfl⟩)
    have kW : Blk W0 w.heap.size 32 #[.int .i64 1, .int .i64 at', .int .i64 n, .int .i64 to, .slice ae bytes.length ce] := by rw [hW0]; exact (Blk.new w _ _).drewN nq
    rw [← hW0]
    clear hW0
    have x0 : W0.cell? ⟨w.heap.size, 0, none⟩ = some (.int .i64 1) := kW.cell 0
    have x3 : W0.cell? ⟨w.heap.size, 3, none⟩ = some (.int .i64 to) := kW.cell 3
    have x4 : W0.cell? ⟨w.heap.size, 4, none⟩ = some (.slice ae bytes.length ce) := kW.cell 4
    go_wp2_with fail
    refine (sclone_any b _ W0 ((Sl.of_own HB.out).grew gW) (by omega)).mono ?_
    rintro x w2 ⟨v2, rfl, o2, g2⟩
    obtain ⟨a2, c2, rfl⟩ := bs_len (Sl.of_own o2)
    have gW2 := gW.trans g2
    have y3 := (below_ext g2) _ _ x3
    have O2 := Lib.hid o2
    by_cases hlt : p < b.length
    · skip
      obtain ⟨g, cur, rfl, hbg, hg, hcs, ht⟩ : ∃ g cur, a2 = some ⟨g, 0, none⟩ ∧ W0.heap.size ≤ g ∧ Blk w2 g 5 cur ∧ cur.size = c2 ∧ cur.toList.take b.length = bv b := by
        rcases o2.2 with ⟨e, e2⟩ | ⟨g, cap, cur, e, hb, hg, hn, hc, hs, ht⟩
        · omega
        · simp only [Value.slice.injEq] at e
          obtain ⟨rfl, -, rfl⟩ := e
          exact ⟨g, cur, rfl, hb, hg, by omega, by simpa using ht⟩
      have y0 : w2.cell? ⟨g, p, none⟩ = some (.int .u8 ((b[p]).toNat : Int)) := by
        rw [hg.cell]
        have h2 : cur.toList[p]? = some (.int .u8 ((b[p]).toNat : Int)) := by
          rw [← List.getElem?_take_of_lt hlt, ht]; exact bv_get b _ hlt
        simpa using h2
      have y1 := hg.frozen p
      have hz9 : ((p : Nat) : Int) < (b.length : Int) := by omega
      have hfl := own_flip (own_grew o2 (Drew.grew ⟨1, rfl⟩ : Grew w2 w2.drew)) hlt hj
      have HF := Lib.hid hfl
      have HFG := Lib.hid (grew_set (gW2.trans (Drew.grew ⟨1, rfl⟩ : Grew w2 w2.drew)) (b := g) (j := p) (by have := gW.size; omega) (.int .u8 (bits .xor .u8 ((b[p].toNat : Nat) : Int) (IntKind.u8.wrap (2 ^ j)))))
      clear o2 hg ht hfl
      go_wp2_with fail
      go_region_with (go_at_call 22; refine (K5.out _ _ rfl).mono ?_; rintro x w3 ⟨rfl, rfl⟩)
      all_goals go_wp2
      all_goals (
        go_ret
        exact ⟨_, rfl, own_mono (HF.out : OwnB (w2.drew.setCell ⟨g, p, none⟩ _) _ _ _) (by have := gW.size; omega), HFG.out⟩)
    · have hfe : flipB b p j = b := flip_end (by omega)
      have hz9 : (b.length : Int) ≤ ((p : Nat) : Int) := by omega
      clear o2
      go_wp2
      go_ret
      exact ⟨_, rfl, by rw [hfe]; exact own_mono O2.out (by have := gW.size; omega), gW2⟩
  · go_enter Try.func18, Try.ntmps18
    go_wp2_with fail
    refine (K1.out _ _ (by omega)).mono ?_
    rintro x w1 ⟨rfl, rfl⟩
    go_wp2_with fail
    refine (K2.out _ _ (by omega)).mono ?_
    rintro x w1 ⟨rfl, rfl⟩
    go_wp2_with fail
    go_quiet (fail)
    obtain ⟨W0, hW0⟩ : ∃ W0, W0 = (w.alloc (.cells #[.int .i64 1, .int .i64 at', .int .i64 n, .int .i64 to, .slice ae bytes.length ce] 32)).drewN nq := ⟨_, rfl⟩
    have gW : Grew w W0 := by rw [hW0]; exact (grew_alloc w _).trans (Drew.grew ⟨nq, rfl⟩)
    have kW : Blk W0 w.heap.size 32 #[.int .i64 1, .int .i64 at', .int .i64 n, .int .i64 to, .slice ae bytes.length ce] := by rw [hW0]; exact (Blk.new w _ _).drewN nq
    rw [← hW0]
    clear hW0
    have x0 : W0.cell? ⟨w.heap.size, 0, none⟩ = some (.int .i64 1) := kW.cell 0
    have x3 : W0.cell? ⟨w.heap.size, 3, none⟩ = some (.int .i64 to) := kW.cell 3
    have x4 : W0.cell? ⟨w.heap.size, 4, none⟩ = some (.slice ae bytes.length ce) := kW.cell 4
    go_wp2_with fail
    refine (sclone_any b _ W0 ((Sl.of_own HB.out).grew gW) (by omega)).mono ?_
    rintro x w2 ⟨v2, rfl, o2, g2⟩
    obtain ⟨a2, c2, rfl⟩ := bs_len (Sl.of_own o2)
    have gW2 := gW.trans g2
    have y3 := (below_ext g2) _ _ x3
    have O2 := Lib.hid o2
    by_cases hlt : p < b.length
    · skip
      obtain ⟨g, cur, rfl, hbg, hg, hcs, ht⟩ : ∃ g cur, a2 = some ⟨g, 0, none⟩ ∧ W0.heap.size ≤ g ∧ Blk w2 g 5 cur ∧ cur.size = c2 ∧ cur.toList.take b.length = bv b := by
        rcases o2.2 with ⟨e, e2⟩ | ⟨g, cap, cur, e, hb, hg, hn, hc, hs, ht⟩
        · omega
        · simp only [Value.slice.injEq] at e
          obtain ⟨rfl, -, rfl⟩ := e
          exact ⟨g, cur, rfl, hb, hg, by omega, by simpa using ht⟩
      have y0 : w2.cell? ⟨g, p, none⟩ = some (.int .u8 ((b[p]).toNat : Int)) := by
        rw [hg.cell]
        have h2 : cur.toList[p]? = some (.int .u8 ((b[p]).toNat : Int)) := by
          rw [← List.getElem?_take_of_lt hlt, ht]; exact bv_get b _ hlt
        simpa using h2
      have y1 := hg.frozen p
      have hz9 : ((p : Nat) : Int) < (b.length : Int) := by omega
      have hfl := own_flip (own_grew o2 (Drew.grew ⟨1, rfl⟩ : Grew w2 w2.drew)) hlt hj
      have HF := Lib.hid hfl
      have HFG := Lib.hid (grew_set (gW2.trans (Drew.grew ⟨1, rfl⟩ : Grew w2 w2.drew)) (b := g) (j := p) (by have := gW.size; omega) (.int .u8 (bits .xor .u8 ((b[p].toNat : Nat) : Int) (IntKind.u8.wrap (2 ^ j)))))
      clear o2 hg ht hfl
      go_wp2_with fail
      go_region_with (go_at_call 22; refine (K5.out _ _ rfl).mono ?_; rintro x w3 ⟨rfl, rfl⟩)
      all_goals go_wp2
      all_goals (
        go_ret
        exact ⟨_, rfl, own_mono (HF.out : OwnB (w2.drew.setCell ⟨g, p, none⟩ _) _ _ _) (by have := gW.size; omega), HFG.out⟩)
    · have hfe : flipB b p j = b := flip_end (by omega)
      have hz9 : (b.length : Int) ≤ ((p : Nat) : Int) := by omega
      clear o2
      go_wp2
      go_ret
      exact ⟨_, rfl, by rw [hfe]; exact own_mono O2.out (by have := gW.size; omega), gW2⟩
  · go_enter Try.func18, Try.ntmps18
    go_wp2_with fail
    refine (K1.out _ _ (by omega)).mono ?_
    rintro x w1 ⟨rfl, rfl⟩
    go_wp2_with fail
    refine (K2.out _ _ (by omega)).mono ?_
    rintro x w1 ⟨rfl, rfl⟩
    go_wp2_with fail
    go_quiet (fail)
    obtain ⟨W0, hW0⟩ : ∃ W0, W0 = (w.alloc (.cells #[.int .i64 1, .int .i64 at', .int .i64 n, .int .i64 to, .slice ae bytes.length ce] 32)).drewN nq := ⟨_, rfl⟩
    have gW : Grew w W0 := by rw [hW0]; exact (grew_alloc w _).trans (Drew.grew ⟨nq, rfl⟩)
    have kW : Blk W0 w.heap.size 32 #[.int .i64 1, .int .i64 at', .int .i64 n, .int .i64 to, .slice ae bytes.length ce] := by rw [hW0]; exact (Blk.new w _ _).drewN nq
    rw [← hW0]
    clear hW0
    have x0 : W0.cell? ⟨w.heap.size, 0, none⟩ = some (.int .i64 1) := kW.cell 0
    have x3 : W0.cell? ⟨w.heap.size, 3, none⟩ = some (.int .i64 to) := kW.cell 3
    have x4 : W0.cell? ⟨w.heap.size, 4, none⟩ = some (.slice ae bytes.length ce) := kW.cell 4
    go_wp2_with fail
    refine (sclone_any b _ W0 ((Sl.of_own HB.out).grew gW) (by omega)).mono ?_
    rintro x w2 ⟨v2, rfl, o2, g2⟩
    obtain ⟨a2, c2, rfl⟩ := bs_len (Sl.of_own o2)
    have gW2 := gW.trans g2
    have y3 := (below_ext g2) _ _ x3
    have O2 := Lib.hid o2
    by_cases hlt : p < b.length
    · skip
      obtain ⟨g, cur, rfl, hbg, hg, hcs, ht⟩ : ∃ g cur, a2 = some ⟨g, 0, none⟩ ∧ W0.heap.size ≤ g ∧ Blk w2 g 5 cur ∧ cur.size = c2 ∧ cur.toList.take b.length = bv b := by
        rcases o2.2 with ⟨e, e2⟩ | ⟨g, cap, cur, e, hb, hg, hn, hc, hs, ht⟩
        · omega
        · simp only [Value.slice.injEq] at e
          obtain ⟨rfl, -, rfl⟩ := e
          exact ⟨g, cur, rfl, hb, hg, by omega, by simpa using ht⟩
      have y0 : w2.cell? ⟨g, p, none⟩ = some (.int .u8 ((b[p]).toNat : Int)) := by
        rw [hg.cell]
        have h2 : cur.toList[p]? = some (.int .u8 ((b[p]).toNat : Int)) := by
          rw [← List.getElem?_take_of_lt hlt, ht]; exact bv_get b _ hlt
        simpa using h2
      have y1 := hg.frozen p
      have hz9 : ((p : Nat) : Int) < (b.length : Int) := by omega
      have hfl := own_flip (own_grew o2 (Drew.grew ⟨1, rfl⟩ : Grew w2 w2.drew)) hlt hj
      have HF := Lib.hid hfl
      have HFG := Lib.hid (grew_set (gW2.trans (Drew.grew ⟨1, rfl⟩ : Grew w2 w2.drew)) (b := g) (j := p) (by have := gW.size; omega) (.int .u8 (bits .xor .u8 ((b[p].toNat : Nat) : Int) (IntKind.u8.wrap (2 ^ j)))))
      clear o2 hg ht hfl
      go_wp2_with fail
      go_region_with (go_at_call 22; refine (K5.out _ _ rfl).mono ?_; rintro x w3 ⟨rfl, rfl⟩)
      all_goals go_wp2
      all_goals (
        go_ret
        exact ⟨_, rfl, own_mono (HF.out : OwnB (w2.drew.setCell ⟨g, p, none⟩ _) _ _ _) (by have := gW.size; omega), HFG.out⟩)
    · have hfe : flipB b p j = b := flip_end (by omega)
      have hz9 : (b.length : Int) ≤ ((p : Nat) : Int) := by omega
      clear o2
      go_wp2
      go_ret
      exact ⟨_, rfl, by rw [hfe]; exact own_mono O2.out (by have := gW.size; omega), gW2⟩
set_option maxRecDepth 100000 in
set_option maxHeartbeats 8000000 in
theorem sone_2 (base : Nat) (b : List UInt8) (e : Ed) (vb ve : Value) (w : World) (hb : OwnB w base vb b) (he : Bs w ve e.bytes) (hok : e.ok) (hlen : b.length ≤ 1048576) (hbase : base ≤ w.heap.size) (hk : e.kind = 2) :
    Calls Try.prog 18 #[vb, .agg (edA e ve)] w fun x w' => ∃ v', x = .returned v' ∧ OwnB w' base v' (oneM b e) ∧ Grew w w' := by
  obtain ⟨kd, at', n, to, bytes⟩ := e
  obtain rfl : kd = 2 := hk
  obtain ⟨-, ok2, ok3, ok4, ok5⟩ := hok
  simp only at ok2 ok3 ok4 ok5 he
  obtain ⟨ab, cb, rfl, hc1, hc2⟩ : ∃ a c, vb = .slice a b.length c ∧ b.length ≤ c ∧ c ≤ 9223372036854775807 := by
    obtain ⟨a, c, e, q1, q2, _⟩ := (Sl.of_own hb).open
    unfold maxLen at q2
    exact ⟨a, c, e, q1, by omega⟩
  obtain ⟨ae, ce, rfl⟩ := bs_len he
  obtain ⟨e, hed⟩ : ∃ e : Ed, e = ⟨2, at', n, to, bytes⟩ := ⟨_, rfl⟩
  have hp := eAt_le b e
  have hc := eN_le b e
  have e1 : restN at' (b.length + 1) = eAt b e := by rw [hed]; rfl
  have e2 : restN n (b.length - eAt b e + 1) = eN b e := by rw [hed]; rfl
  have K1 := Lib.hid (fun W kI hkI => srest_any at' kI (b.length + 1) hkI (by omega) (by omega) ok2.1 ok2.2 W)
  have K2 := Lib.hid (fun W kI hkI => srest_any n kI (b.length - eAt b e + 1) hkI (by omega) (by omega) ok3.1 ok3.2 W)
  rw [e1] at K1
  rw [e2] at K2
  rw [← hed]
  have HB := Lib.hid hb
  have HE := Lib.hid he
  have hM : oneM b e = b.take (eAt b e) ++ b.drop (eAt b e + eN b e) := by unfold oneM eLeft; rw [hed]; simp only [show ¬ ((2 : Int) = 1) by decide, if_false, if_true]
  have HM := Lib.hid hM
  clear hM e1 e2 hb he
  generalize hpp : eAt b e = p at *
  generalize hcc : eN b e = c at *
  clear hpp hcc
  rw [HM.out]
  simp only [edA, hed]
  clear hed
  have z1 : (p : Int) ≤ (b.length : Int) := by omega
  have z2 : (p : Int) + (c : Int) ≤ (b.length : Int) := by omega
  have z4 : (p : Int) + (c : Int) ≤ (cb : Int) := by omega
  have z5 : (p : Int) ≤ (cb : Int) := by omega
  have z6 : ((p : Int) + (c : Int)).toNat = p + c := by omega
  have z7 : IntKind.i64.wrap ((p : Int) + (c : Int)) = (p : Int) + (c : Int) := by rw [IntKind.wrap_i64]; omega
  have z8 : (0 : Int) ≤ (p : Int) + (c : Int) := by omega
  have hcases : (c = 0 ∧ cb = p + c) ∨ (c = 0 ∧ ¬ cb = p) ∨ (¬ p + c = p ∧ cb = p + c) ∨ (¬ p + c = p ∧ ¬ cb = p + c) := by omega
  rcases hcases with ⟨rfl, hcb⟩ | ⟨rfl, hcb⟩ | ⟨hc0, rfl⟩ | ⟨hc0, hcb⟩
  · obtain rfl : p = b.length := by omega
    obtain rfl : cb = b.length := by omega
    clear hcb
    go_enter Try.func18, Try.ntmps18
    go_wp2_with fail
    refine (K1.out _ _ (by omega)).mono ?_
    rintro x w1 ⟨rfl, rfl⟩
    go_wp2_with fail
    refine (K2.out _ _ (by omega)).mono ?_
    rintro x w1 ⟨rfl, rfl⟩
    go_wp2_with fail
    go_quiet (fail)
    obtain ⟨W0, hW0⟩ : ∃ W0, W0 = (w.alloc (.cells #[.int .i64 2, .int .i64 at', .int .i64 n, .int .i64 to, .slice ae bytes.length ce] 32)).drewN nq := ⟨_, rfl⟩
    have gW : Grew w W0 := by rw [hW0]; exact (grew_alloc w _).trans (Drew.grew ⟨nq, rfl⟩)
    have kW : Blk W0 w.heap.size 32 #[.int .i64 2, .int .i64 at', .int .i64 n, .int .i64 to, .slice ae bytes.length ce] := by rw [hW0]; exact (Blk.new w _ _).drewN nq
    rw [← hW0]
    clear hW0
    have x0 : W0.cell? ⟨w.heap.size, 0, none⟩ = some (.int .i64 2) := kW.cell 0
    have x3 : W0.cell? ⟨w.heap.size, 3, none⟩ = some (.int .i64 to) := kW.cell 3
    have x4 : W0.cell? ⟨w.heap.size, 4, none⟩ = some (.slice ae bytes.length ce) := kW.cell 4
    go_wp2_with fail
    refine (concat_lit [(_, b.take b.length), (_, b.drop (b.length + 0))] 2 rfl (by omega) _ rfl _ W0 ?_ ?_).mono ?_
    · intro q hq
      simp only [List.mem_cons, List.not_mem_nil, or_false] at hq
      rcases hq with rfl | rfl
      · exact (pay_head HB.out hc1 hp).bs.grew gW
      · exact (pay_tail HB.out hc1 hc _ (by first | exact .inl ⟨rfl, rfl⟩ | exact .inr rfl | exact .inl ⟨rfl, by rw [show b.length - (b.length + 0) = 0 by omega]⟩)).bs.grew gW
    · simp [catl]; omega
    rintro x w2 ⟨v2, rfl, o2, g2⟩
    simp only [catl, List.flatMap_cons, List.flatMap_nil, List.append_nil] at o2
    go_wp2
    go_ret
    exact ⟨_, rfl, own_mono o2 (by have := gW.size; omega), gW.trans g2⟩
  · go_enter Try.func18, Try.ntmps18
    go_wp2_with fail
    refine (K1.out _ _ (by omega)).mono ?_
    rintro x w1 ⟨rfl, rfl⟩
    go_wp2_with fail
    refine (K2.out _ _ (by omega)).mono ?_
    rintro x w1 ⟨rfl, rfl⟩
    go_wp2_with fail
    go_quiet (fail)
    obtain ⟨W0, hW0⟩ : ∃ W0, W0 = (w.alloc (.cells #[.int .i64 2, .int .i64 at', .int .i64 n, .int .i64 to, .slice ae bytes.length ce] 32)).drewN nq := ⟨_, rfl⟩
    have gW : Grew w W0 := by rw [hW0]; exact (grew_alloc w _).trans (Drew.grew ⟨nq, rfl⟩)
    have kW : Blk W0 w.heap.size 32 #[.int .i64 2, .int .i64 at', .int .i64 n, .int .i64 to, .slice ae bytes.length ce] := by rw [hW0]; exact (Blk.new w _ _).drewN nq
    rw [← hW0]
    clear hW0
    have x0 : W0.cell? ⟨w.heap.size, 0, none⟩ = some (.int .i64 2) := kW.cell 0
    have x3 : W0.cell? ⟨w.heap.size, 3, none⟩ = some (.int .i64 to) := kW.cell 3
    have x4 : W0.cell? ⟨w.heap.size, 4, none⟩ = some (.slice ae bytes.length ce) := kW.cell 4
    go_wp2_with fail
    refine (concat_lit [(_, b.take p), (_, b.drop (p + 0))] 2 rfl (by omega) _ rfl _ W0 ?_ ?_).mono ?_
    · intro q hq
      simp only [List.mem_cons, List.not_mem_nil, or_false] at hq
      rcases hq with rfl | rfl
      · exact (pay_head HB.out hc1 hp).bs.grew gW
      · exact (pay_tail HB.out hc1 hc _ (by first | exact .inl ⟨rfl, rfl⟩ | exact .inr rfl | exact .inl ⟨rfl, by rw [show b.length - (p + 0) = 0 by omega]⟩)).bs.grew gW
    · simp [catl]; omega
    rintro x w2 ⟨v2, rfl, o2, g2⟩
    simp only [catl, List.flatMap_cons, List.flatMap_nil, List.append_nil] at o2
    go_wp2
    go_ret
    exact ⟨_, rfl, own_mono o2 (by have := gW.size; omega), gW.trans g2⟩
  · go_enter Try.func18, Try.ntmps18
    go_wp2_with fail
    refine (K1.out _ _ (by omega)).mono ?_
    rintro x w1 ⟨rfl, rfl⟩
    go_wp2_with fail
    refine (K2.out _ _ (by omega)).mono ?_
    rintro x w1 ⟨rfl, rfl⟩
    go_wp2_with fail
    go_quiet (fail)
    obtain ⟨W0, hW0⟩ : ∃ W0, W0 = (w.alloc (.cells #[.int .i64 2, .int .i64 at', .int .i64 n, .int .i64 to, .slice ae bytes.length ce] 32)).drewN nq := ⟨_, rfl⟩
    have gW : Grew w W0 := by rw [hW0]; exact (grew_alloc w _).trans (Drew.grew ⟨nq, rfl⟩)
    have kW : Blk W0 w.heap.size 32 #[.int .i64 2, .int .i64 at', .int .i64 n, .int .i64 to, .slice ae bytes.length ce] := by rw [hW0]; exact (Blk.new w _ _).drewN nq
    rw [← hW0]
    clear hW0
    have x0 : W0.cell? ⟨w.heap.size, 0, none⟩ = some (.int .i64 2) := kW.cell 0
    have x3 : W0.cell? ⟨w.heap.size, 3, none⟩ = some (.int .i64 to) := kW.cell 3
    have x4 : W0.cell? ⟨w.heap.size, 4, none⟩ = some (.slice ae bytes.length ce) := kW.cell 4
    go_wp2_with fail
    refine (concat_lit [(_, b.take p), (_, b.drop (p + c))] 2 rfl (by omega) _ rfl _ W0 ?_ ?_).mono ?_
    · intro q hq
      simp only [List.mem_cons, List.not_mem_nil, or_false] at hq
      rcases hq with rfl | rfl
      · exact (pay_head HB.out hc1 hp).bs.grew gW
      · exact (pay_tail HB.out hc1 hc _ (by first | exact .inl ⟨rfl, rfl⟩ | exact .inr rfl | exact .inl ⟨rfl, by rw [show b.length - (p + c) = 0 by omega]⟩)).bs.grew gW
    · simp [catl]; omega
    rintro x w2 ⟨v2, rfl, o2, g2⟩
    simp only [catl, List.flatMap_cons, List.flatMap_nil, List.append_nil] at o2
    go_wp2
    go_ret
    exact ⟨_, rfl, own_mono o2 (by have := gW.size; omega), gW.trans g2⟩
  · go_enter Try.func18, Try.ntmps18
    go_wp2_with fail
    refine (K1.out _ _ (by omega)).mono ?_
    rintro x w1 ⟨rfl, rfl⟩
    go_wp2_with fail
    refine (K2.out _ _ (by omega)).mono ?_
    rintro x w1 ⟨rfl, rfl⟩
    go_wp2_with fail
    go_quiet (fail)
    obtain ⟨W0, hW0⟩ : ∃ W0, W0 = (w.alloc (.cells #[.int .i64 2, .int .i64 at', .int .i64 n, .int .i64 to, .slice ae bytes.length ce] 32)).drewN nq := ⟨_, rfl⟩
    have gW : Grew w W0 := by rw [hW0]; exact (grew_alloc w _).trans (Drew.grew ⟨nq, rfl⟩)
    have kW : Blk W0 w.heap.size 32 #[.int .i64 2, .int .i64 at', .int .i64 n, .int .i64 to, .slice ae bytes.length ce] := by rw [hW0]; exact (Blk.new w _ _).drewN nq
    rw [← hW0]
    clear hW0
    have x0 : W0.cell? ⟨w.heap.size, 0, none⟩ = some (.int .i64 2) := kW.cell 0
    have x3 : W0.cell? ⟨w.heap.size, 3, none⟩ = some (.int .i64 to) := kW.cell 3
    have x4 : W0.cell? ⟨w.heap.size, 4, none⟩ = some (.slice ae bytes.length ce) := kW.cell 4
    go_wp2_with fail
    refine (concat_lit [(_, b.take p), (_, b.drop (p + c))] 2 rfl (by omega) _ rfl _ W0 ?_ ?_).mono ?_
    · intro q hq
      simp only [List.mem_cons, List.not_mem_nil, or_false] at hq
      rcases hq with rfl | rfl
      · exact (pay_head HB.out hc1 hp).bs.grew gW
      · exact (pay_tail HB.out hc1 hc _ (by first | exact .inl ⟨rfl, rfl⟩ | exact .inr rfl | exact .inl ⟨rfl, by rw [show b.length - (p + c) = 0 by omega]⟩)).bs.grew gW
    · simp [catl]; omega
    rintro x w2 ⟨v2, rfl, o2, g2⟩
    simp only [catl, List.flatMap_cons, List.flatMap_nil, List.append_nil] at o2
    go_wp2
    go_ret
    exact ⟨_, rfl, own_mono o2 (by have := gW.size; omega), gW.trans g2⟩
end Go.Proofs.Ytgdkgmpgkocnlaa
