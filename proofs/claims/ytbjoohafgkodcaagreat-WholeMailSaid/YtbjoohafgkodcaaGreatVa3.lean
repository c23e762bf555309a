/- value.Copy, rescriptref09.Small, Place, Default: contracts. ; Slices of texts: slices.Equal, slices.Clone, rescriptref01.Texts; value.Copy, value.Same, rescriptref09.Same: contracts. -/
import Derived.Test.YtbjoohafgkodcaaGreatVa1
import Derived.Test.YtbjoohafgkodcaaGreatSchP
namespace Go.Proofs.YtbjoohafgkodcaaGreat
open Go Go.RowKit Go.Shelf

theorem tx_get (l : List ByteArray) (j : Nat) (h : j < l.length) : (l.map Value.string)[j]? = some (.string l[j]) := by simp [h]
theorem tne_of (a b : List ByteArray) (h : a ≠ b) : (a == b) = false := by rw [beq_eq_false_iff_ne]; exact h
theorem tx_len {w : World} {v : Value} {l : List ByteArray} (h : Tx w v l) : ∃ a c, v = .slice a l.length c := by
  obtain ⟨a, c, h, _⟩ := h.open
  exact ⟨a, c, h⟩
set_option maxHeartbeats 1000000 in
theorem rtexts_any (a b : List ByteArray) (va vb : Value) (w : World) (ha : Tx w va a) (hb : Tx w vb b) :
    Calls Tryz.prog 30 #[va, vb] w fun e w' => e = .returned (.bool (a == b)) ∧ Drew w w' := by
  obtain ⟨aa, ca, rfl, a1, a2, -, ah⟩ := ha.open
  obtain ⟨ab, cb, rfl, b1, b2, -, bh⟩ := hb.open
  unfold maxLen at a2 b2
  by_cases hlen : a.length = b.length
  · have hl1 : ((a.length : Int) != (b.length : Int)) = false := by simp [hlen]
    have hl2 : b.length ≤ a.length ∧ a.length ≤ b.length := by omega
    have HL := Lib.hid hlen
    clear hlen
    go_enter Tryz.func30, Tryz.ntmps30
    go_wp2
    go_loopw [5] (fun i wr => (∃ k : Nat, k ≤ a.length ∧ i = .int .i64 k ∧ RowKit.Hid (a.take k = b.take k)) ∧ Drew w wr) (fun i _ => a.length - (intOf i).toNat)
    case atStart => exact ⟨⟨0, Nat.zero_le _, rfl, rfl⟩, 0, rfl⟩
    case round =>
      obtain ⟨⟨k, hk, rfl, HT⟩, n, rfl⟩ := hrel
      by_cases hlt : k < a.length
      · obtain ⟨b1, o1, rfl, h1⟩ := ah (by omega)
        obtain ⟨b2, o2, rfl, h2⟩ := bh (by omega)
        have c1 := h1 k _ (tx_get a k hlt)
        have c2 := h2 k _ (tx_get b k (by omega))
        clear h1 h2 ah bh
        by_cases he : a[k] = b[k]
        · have hts := take_succ_eq a b k hlt (by omega) HT.out he
          have HTS := Lib.hid hts
          have HE := Lib.hid he
          have e1 : (a[k].toList == b[k].toList) = true := by rw [he]; simp
          generalize a[k] = x at c1 e1 he
          generalize b[k] = y at c2 e1 he
          clear hts he HE
          go_wp2
          go_quiet (fail)
          go_wp2
          go_roundw
          case rel => exact ⟨⟨k + 1, by omega, by go_num, HTS⟩, ⟨_, rfl⟩⟩
          case measure => simp [intOf]; omega
        · have hne := tne_of a b (fun e => by subst e; exact he rfl)
          have HNE := Lib.hid hne
          have e1 : (a[k].toList == b[k].toList) = false := by rw [← beq_toListBytes]; simpa using he
          generalize a[k] = x at c1 e1 he
          generalize b[k] = y at c2 e1 he
          clear hne he
          go_wp2
          go_quiet (fail)
          go_wp2
          go_ret
          exact ⟨ret_bool HNE.out.symm, Drew.more ⟨_, rfl⟩ _⟩
      · obtain rfl : k = a.length := by omega
        go_wp2
        go_ret
        have : a = b := by have h := HT.out; rwa [List.take_length, List.take_of_length_le (by have := HL.out; omega)] at h
        exact ⟨ret_bool (by subst this; simp), _, rfl⟩
  · have hl1 : ((a.length : Int) != (b.length : Int)) = true := by simp; omega
    have HL := Lib.hid hlen
    clear hlen ah bh
    go_enter Tryz.func30, Tryz.ntmps30
    go_wp2
    go_ret
    exact ⟨ret_bool (tne_of a b (fun e => by subst e; exact HL.out rfl)).symm, 0, rfl⟩
set_option maxHeartbeats 1000000 in
theorem tequal_any (a b : List ByteArray) (va vb : Value) (w : World) (ha : Tx w va a) (hb : Tx w vb b) :
    Calls Tryz.prog 41 #[va, vb] w fun e w' => e = .returned (.bool (a == b)) ∧ Drew w w' := by
  obtain ⟨aa, ca, rfl, a1, a2, -, ah⟩ := ha.open
  obtain ⟨ab, cb, rfl, b1, b2, -, bh⟩ := hb.open
  unfold maxLen at a2 b2
  by_cases hlen : a.length = b.length
  · have hl1 : ((a.length : Int) != (b.length : Int)) = false := by simp [hlen]
    have hl2 : b.length ≤ a.length ∧ a.length ≤ b.length := by omega
    have HL := Lib.hid hlen
    clear hlen
    go_enter Tryz.func41, Tryz.ntmps41
    go_wp2
    go_loopw [13] (fun i wr => (∃ k : Nat, k ≤ a.length ∧ i = .int .i64 k ∧ RowKit.Hid (a.take k = b.take k)) ∧ Drew w wr) (fun i _ => a.length - (intOf i).toNat)
    case atStart => exact ⟨⟨0, Nat.zero_le _, rfl, rfl⟩, 0, rfl⟩
    case round =>
      obtain ⟨⟨k, hk, rfl, HT⟩, n, rfl⟩ := hrel
      by_cases hlt : k < a.length
      · obtain ⟨b1, o1, rfl, h1⟩ := ah (by omega)
        obtain ⟨b2, o2, rfl, h2⟩ := bh (by omega)
        have c1 := h1 k _ (tx_get a k hlt)
        have c2 := h2 k _ (tx_get b k (by omega))
        clear h1 h2 ah bh
        by_cases he : a[k] = b[k]
        · have hts := take_succ_eq a b k hlt (by omega) HT.out he
          have HTS := Lib.hid hts
          have HE := Lib.hid he
          have e1 : (a[k].toList == b[k].toList) = true := by rw [he]; simp
          generalize a[k] = x at c1 e1 he
          generalize b[k] = y at c2 e1 he
          clear hts he HE
          go_wp2
          go_quiet (fail)
          go_wp2
          go_roundw
          case rel => exact ⟨⟨k + 1, by omega, by go_num, HTS⟩, ⟨_, rfl⟩⟩
          case measure => simp [intOf]; omega
        · have hne := tne_of a b (fun e => by subst e; exact he rfl)
          have HNE := Lib.hid hne
          have e1 : (a[k].toList == b[k].toList) = false := by rw [← beq_toListBytes]; simpa using he
          generalize a[k] = x at c1 e1 he
          generalize b[k] = y at c2 e1 he
          clear hne he
          go_wp2
          go_quiet (fail)
          go_wp2
          go_ret
          exact ⟨ret_bool HNE.out.symm, Drew.more ⟨_, rfl⟩ _⟩
      · obtain rfl : k = a.length := by omega
        go_wp2
        go_ret
        have : a = b := by have h := HT.out; rwa [List.take_length, List.take_of_length_le (by have := HL.out; omega)] at h
        exact ⟨ret_bool (by subst this; simp), _, rfl⟩
  · have hl1 : ((a.length : Int) != (b.length : Int)) = true := by simp; omega
    have HL := Lib.hid hlen
    clear hlen ah bh
    go_enter Tryz.func41, Tryz.ntmps41
    go_wp2
    go_ret
    exact ⟨ret_bool (tne_of a b (fun e => by subst e; exact HL.out rfl)).symm, 0, rfl⟩

theorem info_str : (Tryz.prog.info? 9).map (fun i => (i.zero, i.size, i.bytes)) = some (some (.string ⟨#[]⟩), 1, 16) := by kernel_rfl
theorem tx_one (l : List ByteArray) : ∀ u ∈ l.map Value.string, u.oneCell' = true := by
  intro u hu; obtain ⟨_, _, rfl⟩ := List.mem_map.1 hu; rfl
theorem ownT_nil (w : World) (base : Nat) : OwnT w base (.slice none 0 0) [] := World.ownsRow_nil _ _ _ _
set_option maxHeartbeats 1000000 in
/-- nil for nil, else a row of its own -/
theorem tclone_any (l : List ByteArray) (va : Value) (w : World) (ha : Tx w va l) (hlen : l.length ≤ 1000000000000) :
    Calls Tryz.prog 127 #[va] w fun e w' => ∃ v, e = .returned v ∧ OwnT w' w.heap.size v l ∧ Grew w w' ∧ (va = .slice none 0 0 → v = .slice none 0 0) := by
  have he := fun (w : World) (a : Option Addr) (n c : Nat) => Lib.run_eql_slice_nil (P := Tryz.prog) w 27 9 a n c 0 0 Tryz.underlying27
  rcases ha.shape with ⟨rfl, h0, h1⟩ | ⟨ad, cap, rfl, h1, h2, h3, h4⟩
  · obtain rfl : l = [] := List.eq_nil_of_length_eq_zero h0
    go_enter Tryz.func127, Tryz.ntmps127
    go_wp2
    go_ret
    exact ⟨_, rfl, ownT_nil _ _, Below.refl _ _, fun _ => rfl⟩
  · clear h4
    obtain ⟨i0, hi, hz0, hz1, hz2⟩ := info_parts info_str
    have HA := Lib.hid ha
    clear ha
    go_enter Tryz.func127, Tryz.ntmps127
    go_wp2_with (at_builtin; refine wpList_app rfl _ _ 27 rfl w.heap.size 9 i0 (.string ⟨#[]⟩) 1 16 Tryz.underlying27 hi hz0 hz1 hz2 rfl (by decide) _ 0 [] rfl (World.ownsRow_lit _ #[] 0 (Nat.le_refl _) (Nat.zero_le _) rfl) _ l.length _ rfl (HA.out.grew ((Below.refl _ _).alloc (Nat.le_refl _) _)) (tx_one l) (by unfold maxLen; omega) (by omega) (by simp) ?_; intro v' w1 hown1 hg1)
    have hB1 : Below w.heap.size _ w1 := grownBy_below hg1 (World.ownsRow_lit (e := 9) (size := 1) w #[] 0 (Nat.le_refl _) (Nat.zero_le _) (by rfl)) (by simp)
    go_ret
    exact ⟨_, rfl, by simpa using hown1, ((Below.refl _ _).alloc (Nat.le_refl _) _).trans hB1, fun h => by cases h⟩
theorem sameB_1 {a b : Msg} (h : (a.k == b.k) = false) : sameB a b = false := by unfold sameB; rw [h]; rfl
theorem sameB_2 {a b : Msg} (h : (nL a == nL b) = false) : sameB a b = false := by unfold sameB; rw [h]; simp
theorem sameB_3 {a b : Msg} (h : (sL a == sL b) = false) : sameB a b = false := by unfold sameB; rw [h]; simp
theorem sameB_4 {a b : Msg} (h1 : (a.k == b.k) = true) (h2 : (nL a == nL b) = true) (h3 : (sL a == sL b) = true) : sameB a b = (a.l == b.l) := by unfold sameB; rw [h1, h2, h3]; rfl
theorem msg_eqn (a b : Msg) (W : World) : (binOp .eql 25 (.agg #[.int .u64 (a.n 0), .int .u64 (a.n 1), .int .u64 (a.n 2), .int .u64 (a.n 3), .int .u64 (a.n 4), .int .u64 (a.n 5)]) (.agg #[.int .u64 (b.n 0), .int .u64 (b.n 1), .int .u64 (b.n 2), .int .u64 (b.n 3), .int .u64 (b.n 4), .int .u64 (b.n 5)])).run Tryz.prog W = .ok (.bool (nL a == nL b)) W := by
  have h := run_equal_ints (P := Tryz.prog) (d := 9998) (t := 25) (e := 24) (k := .u64) (w := W) (nL a) (nL b) 6 rfl rfl Tryz.underlying25 Tryz.underlying24 (by kernel_rfl)
  rw [run_eql_struct]
  have e : ∀ m : Msg, ((nL m).map (Value.int .u64)).toArray = #[.int .u64 (m.n 0), .int .u64 (m.n 1), .int .u64 (m.n 2), .int .u64 (m.n 3), .int .u64 (m.n 4), .int .u64 (m.n 5)] := fun _ => rfl
  rw [e, e] at h
  rw [h]
  rfl
theorem msg_eqs (a b : Msg) (W : World) : (binOp .eql 26 (.agg #[.string (a.s 0), .string (a.s 1)]) (.agg #[.string (b.s 0), .string (b.s 1)])).run Tryz.prog W = .ok (.bool (sL a == sL b)) W := by
  have h := run_equal_texts (P := Tryz.prog) (d := 9998) (t := 26) (e := 9) (w := W) (sL a) (sL b) 2 rfl rfl Tryz.underlying26 Tryz.underlying9 (by kernel_rfl)
  rw [run_eql_struct]
  have e : ∀ m : Msg, ((sL m).map Value.string).toArray = #[.string (m.s 0), .string (m.s 1)] := fun _ => rfl
  rw [e, e] at h
  rw [h]
  rfl
set_option maxRecDepth 100000 in
set_option maxHeartbeats 4000000 in
theorem vsame_any (a b : Msg) (va vb : Value) (w : World) (ha : Tx w va a.l) (hb : Tx w vb b.l) :
    Calls Tryz.prog 19 #[.agg (msgA a va), .agg (msgA b vb)] w fun e w' => e = .returned (.bool (sameB a b)) ∧ Grew w w' := by
  have hg := grew2 w (.cells (msgA a va) 29) (.cells (msgA b vb) 29)
  have KT := Lib.hid (tequal_any a.l b.l va vb _ (ha.grew hg) (hb.grew hg))
  obtain ⟨aa, ca, rfl⟩ := tx_len ha
  obtain ⟨ab, cb, rfl⟩ := tx_len hb
  have HG := Lib.hid hg
  simp only [msgA] at HG KT ⊢
  clear ha hb hg
  have hek : ((a.k : Int) == (b.k : Int)) = (a.k == b.k) := by rw [Bool.eq_iff_iff]; simp; omega
  cases h1 : a.k == b.k with
  | false =>
    have E := Lib.hid (sameB_1 h1)
    rw [h1] at hek
    clear h1
    go_enter Tryz.func19, Tryz.ntmps19
    go_wp2
    go_ret
    exact ⟨ret_bool (by rw [E.out]), HG.out⟩
  | true =>
  rw [h1] at hek
  have hen := fun W => msg_eqn a b W
  cases h2 : nL a == nL b with
  | false =>
    have E := Lib.hid (sameB_2 h2)
    rw [h2] at hen
    clear h1 h2
    go_enter Tryz.func19, Tryz.ntmps19
    go_wp2
    go_ret
    exact ⟨ret_bool (by rw [E.out]), HG.out⟩
  | true =>
  rw [h2] at hen
  have hes := fun W => msg_eqs a b W
  cases h3 : sL a == sL b with
  | false =>
    have E := Lib.hid (sameB_3 h3)
    rw [h3] at hes
    clear h1 h2 h3
    go_enter Tryz.func19, Tryz.ntmps19
    go_wp2
    go_ret
    exact ⟨ret_bool (by rw [E.out]), HG.out⟩
  | true =>
    rw [h3] at hes
    have E := Lib.hid (sameB_4 h1 h2 h3)
    clear h1 h2 h3
    go_enter Tryz.func19, Tryz.ntmps19
    go_wp2_with fail
    refine KT.out.mono ?_
    rintro e w1 ⟨rfl, d1⟩
    go_wp2
    go_ret
    exact ⟨ret_bool (by rw [E.out]), HG.out.trans d1.grew⟩
set_option maxRecDepth 100000 in
set_option maxHeartbeats 4000000 in
theorem rsame9_any (a b : Msg) (va vb : Value) (w : World) (ha : Tx w va a.l) (hb : Tx w vb b.l) :
    Calls Tryz.prog 10 #[.agg (msgA a va), .agg (msgA b vb)] w fun e w' => e = .returned (.bool (sameB a b)) ∧ Grew w w' := by
  have hg := grew2 w (.cells (msgA a va) 29) (.cells (msgA b vb) 29)
  have KT := Lib.hid (rtexts_any a.l b.l va vb _ (ha.grew hg) (hb.grew hg))
  obtain ⟨aa, ca, rfl⟩ := tx_len ha
  obtain ⟨ab, cb, rfl⟩ := tx_len hb
  have HG := Lib.hid hg
  simp only [msgA] at HG KT ⊢
  clear ha hb hg
  have hek : ((a.k : Int) == (b.k : Int)) = (a.k == b.k) := by rw [Bool.eq_iff_iff]; simp; omega
  cases h1 : a.k == b.k with
  | false =>
    have E := Lib.hid (sameB_1 h1)
    rw [h1] at hek
    clear h1
    go_enter Tryz.func10, Tryz.ntmps10
    go_wp2
    go_ret
    exact ⟨ret_bool (by rw [E.out]), HG.out⟩
  | true =>
  rw [h1] at hek
  have hen := fun W => msg_eqn a b W
  cases h2 : nL a == nL b with
  | false =>
    have E := Lib.hid (sameB_2 h2)
    rw [h2] at hen
    clear h1 h2
    go_enter Tryz.func10, Tryz.ntmps10
    go_wp2
    go_ret
    exact ⟨ret_bool (by rw [E.out]), HG.out⟩
  | true =>
  rw [h2] at hen
  have hes := fun W => msg_eqs a b W
  cases h3 : sL a == sL b with
  | false =>
    have E := Lib.hid (sameB_3 h3)
    rw [h3] at hes
    clear h1 h2 h3
    go_enter Tryz.func10, Tryz.ntmps10
    go_wp2
    go_ret
    exact ⟨ret_bool (by rw [E.out]), HG.out⟩
  | true =>
    rw [h3] at hes
    have E := Lib.hid (sameB_4 h1 h2 h3)
    clear h1 h2 h3
    go_enter Tryz.func10, Tryz.ntmps10
    go_wp2_with fail
    refine KT.out.mono ?_
    rintro e w1 ⟨rfl, d1⟩
    go_wp2
    go_ret
    exact ⟨ret_bool (by rw [E.out]), HG.out.trans d1.grew⟩
end Go.Proofs.YtbjoohafgkodcaaGreat
namespace Go.Proofs.YtbjoohafgkodcaaGreat
open Go Go.RowKit Go.Shelf

def zMsg : Array Value := #[.int .u8 0, .int .u64 0, .int .u64 0, .int .u64 0, .int .u64 0, .int .u64 0, .int .u64 0, .string ⟨#[]⟩, .string ⟨#[]⟩, .slice none 0 0]
theorem msg_row : (Tryz.prog.info? 29).map (·.size) = some 10 := by kernel_rfl
theorem msgA_one (m : Msg) (a : Option Addr) (n c : Nat) : (msgA m (.slice a n c)).all (·.oneCell') = true := by simp [msgA, Value.oneCell']
theorem msgA_set (m : Msg) (lv v : Value) : (msgA m lv).setIfInBounds 9 v = msgA m v := rfl
set_option maxRecDepth 100000 in
set_option maxHeartbeats 4000000 in
theorem copy_any (m : Msg) (lv : Value) (w : World) (hl : Tx w lv m.l) (hlen : m.l.length ≤ 1000000000) :
    Calls Tryz.prog 105 #[.agg (msgA m lv)] w fun e w' => ∃ v, e = .returned (.agg (msgA m v)) ∧ OwnT w' w.heap.size v m.l ∧ Grew w w' ∧ (lv = .slice none 0 0 → v = .slice none 0 0) := by
  have hg := grew2 w (.cells (msgA m lv) 29) (.cells zMsg 29)
  have hc := tclone_any m.l lv _ (hl.grew hg) (by omega)
  have HC := Lib.hid hc
  have HG := Lib.hid hg
  have k1 : Blk ((w.alloc (.cells (msgA m lv) 29)).alloc (.cells zMsg 29)) w.heap.size 29 (msgA m lv) := (Blk.new _ _ _).alloc _
  have k2 : Blk ((w.alloc (.cells (msgA m lv) 29)).alloc (.cells zMsg 29)) (w.heap.size + 1) 29 zMsg := Blk.new2 _ _ _ _
  have K1 := Lib.hid k1
  have K2 := Lib.hid k2
  obtain ⟨aa, ca, rfl⟩ := tx_len hl
  simp only [msgA, zMsg] at HG HC K1 K2 ⊢
  clear hl hg hc k1 k2
  go_enter Tryz.func105, Tryz.ntmps105
  go_wp2_with fail
  refine HC.out.mono ?_
  rintro e w1 ⟨v1, rfl, r1, g1, n1⟩
  have HN1 := Lib.hid n1
  clear n1
  obtain ⟨a1, c1, rfl⟩ := tx_len (Sl.of_own r1)
  have q1 := K1.out.grew g1
  have q2 := K2.out.grew g1
  have x9 := q1.cell 9
  have f9 := q1.frozen 9
  simp only [List.getElem?_toArray, List.getElem?_cons_zero, List.getElem?_cons_succ] at x9
  have s1 := q1.set 9 (.slice a1 m.l.length c1)
  have s2 := q2.other ⟨w.heap.size, 9, none⟩ (.slice a1 m.l.length c1) (by simp)
  have r2 := own_set r1 ⟨w.heap.size, 9, none⟩ (.slice a1 m.l.length c1) (fun e => blk_ne_row q1 r1 (by decide) e.symm)
  have g2 : Grew w (w1.setCell ⟨w.heap.size, 9, none⟩ (.slice a1 m.l.length c1)) := grew_set (Below.trans HG.out (g1.mono (by simp; omega))) (Nat.le_refl _) _
  rw [show (#[.int .u8 m.k, .int .u64 (m.n 0), .int .u64 (m.n 1), .int .u64 (m.n 2), .int .u64 (m.n 3), .int .u64 (m.n 4), .int .u64 (m.n 5), .string (m.s 0), .string (m.s 1), .slice aa m.l.length ca] : Array Value).setIfInBounds 9 (.slice a1 m.l.length c1) = msgA m (.slice a1 m.l.length c1) from rfl] at s1
  have hbk : ∀ g, (Value.slice a1 m.l.length c1).ownBlock = some g → g ≠ w.heap.size + 1 := fun g hg => by have := (own_lt r1 g hg).1; simp at this; omega
  have HBK := Lib.hid hbk
  have S1 := Lib.hid s1
  have S2 := Lib.hid s2
  have R2 := Lib.hid r2
  have G2 := Lib.hid g2
  clear s1 s2 r2 g2 q1 q2 r1 K1 K2 HC hbk
  go_upto_region 2 with (fail)
  refine wp_region_lit ?_
  refine wpList_load_row rfl 29 _ rfl w.heap.size rfl 29 _ (0, 0) _ S1.out Tryz.underlying29 rfl (by kernel_rfl) ?_
  refine wpList_store_row rfl 29 _ _ rfl (w.heap.size + 1) _ rfl rfl 29 _ S2.out (by kernel_rfl) rfl (msgA_one _ _ _ _) ?_
  refine wpList_nil ?_
  go_wp2_with fail
  refine bodyPost_ret (results_cell_row rfl _ _ (w.heap.size + 1) 29 _ (0, 0) _ (by kernel_rfl) (S2.out.row _) Tryz.underlying29 rfl (by kernel_rfl)) rfl ?_
  refine ⟨_, rfl, own_mono (own_block R2.out fun g hg => setRow_other _ _ _ _ (HBK.out g hg)) (by simp; omega), below_setRow G2.out (by omega) _, HN1.out⟩
def smallB (m : Msg) : Bool := !(decide (8000 < (m.s 0).size) || decide (8000 < (m.s 1).size) || decide (70 < m.l.length)) && m.l.all fun s => decide (s.size ≤ 200)
theorem small_no {m : Msg} (h : 8000 < (m.s 0).size ∨ 8000 < (m.s 1).size ∨ 70 < m.l.length) : smallB m = false := by unfold smallB; rcases h with h | h | h <;> simp [h]
theorem small_yes {m : Msg} (h0 : ¬ 8000 < (m.s 0).size) (h1 : ¬ 8000 < (m.s 1).size) (h2 : ¬ 70 < m.l.length) : smallB m = m.l.all fun s => decide (s.size ≤ 200) := by unfold smallB; simp [h0, h1, h2]
set_option maxRecDepth 100000 in
set_option maxHeartbeats 4000000 in
theorem small9_any (m : Msg) (lv : Value) (w : World) (hl : Tx w lv m.l) :
    Calls Tryz.prog 14 #[.agg (msgA m lv)] w fun e w' => e = .returned (.bool (smallB m)) ∧ Grew w w' := by
  obtain ⟨aa, ca, rfl, -, -, -, hc⟩ := hl.open
  have HC := Lib.hid (fun h : 0 < m.l.length => hc (by simpa using h))
  have HG := Lib.hid (grew_alloc w (.cells (msgA m (.slice aa m.l.length ca)) 29))
  simp only [msgA] at HG ⊢
  clear hl hc
  by_cases h0 : 8000 < (m.s 0).size
  · have E := Lib.hid (small_no (m := m) (.inl h0))
    have z0 : decide (((m.s 0).size : Int) > 8000) = true := by simp; omega
    go_enter Tryz.func14, Tryz.ntmps14
    go_wp2
    go_ret
    exact ⟨ret_bool E.out.symm, HG.out⟩
  by_cases h1 : 8000 < (m.s 1).size
  · have E := Lib.hid (small_no (m := m) (.inr (.inl h1)))
    have z0 : decide (((m.s 0).size : Int) > 8000) = false := by simp; omega
    have z1 : decide (((m.s 1).size : Int) > 8000) = true := by simp; omega
    clear h0 h1
    go_enter Tryz.func14, Tryz.ntmps14
    go_wp2
    go_ret
    exact ⟨ret_bool E.out.symm, HG.out⟩
  by_cases h2 : 70 < m.l.length
  · have E := Lib.hid (small_no (m := m) (.inr (.inr h2)))
    have z0 : decide (((m.s 0).size : Int) > 8000) = false := by simp; omega
    have z1 : decide (((m.s 1).size : Int) > 8000) = false := by simp; omega
    have z2 : decide ((m.l.length : Int) > 70) = true := by simp; omega
    clear h0 h1 h2
    go_enter Tryz.func14, Tryz.ntmps14
    go_wp2
    go_ret
    exact ⟨ret_bool E.out.symm, HG.out⟩
  have E := Lib.hid (small_yes (m := m) h0 h1 h2)
  have z0 : decide (((m.s 0).size : Int) > 8000) = false := by simp; omega
  have z1 : decide (((m.s 1).size : Int) > 8000) = false := by simp; omega
  have z2 : decide ((m.l.length : Int) > 70) = false := by simp; omega
  have hl70 : (m.l.length : Int) ≤ 70 := by omega
  clear h0 h1 h2
  obtain ⟨L, hL⟩ : ∃ L, L = m.l := ⟨_, rfl⟩
  rw [← hL] at HC HG E z2 hl70 ⊢
  clear hL
  go_enter Tryz.func14, Tryz.ntmps14
  go_wp2
  go_loop [3] (fun i => ∃ k : Nat, k ≤ L.length ∧ i = .int .i64 k ∧ RowKit.Hid (((L.take k).all fun s => decide (s.size ≤ 200)) = true)) (fun i => L.length - (intOf i).toNat)
  case atStart => exact ⟨0, Nat.zero_le _, rfl, Lib.hid (by simp)⟩
  case round =>
    obtain ⟨k, hk, rfl, hI⟩ := hrel
    by_cases hlt : k < L.length
    · obtain ⟨b, o, rfl, hcl⟩ := HC.out (by omega)
      have x0 := (below_ext HG.out) _ _ (hcl k _ (tx_get L k hlt))
      have hs := List.take_succ_eq_append_getElem hlt
      have hm := List.getElem_mem hlt
      generalize L[k] = s at x0 hs hm
      have HS := Lib.hid hs
      have HM := Lib.hid hm
      clear hcl hs hm
      by_cases e : 200 < s.size
      · have q1 : decide ((s.size : Int) > 200) = true := by simp; omega
        have HE := Lib.hid e
        clear e
        go_wp2
        go_ret
        refine ⟨ret_bool ?_, HG.out⟩
        rw [E.out]
        symm
        rw [List.all_eq_false]
        exact ⟨s, HM.out, by have := HE.out; simp; omega⟩
      · have q1 : decide ((s.size : Int) > 200) = false := by simp; omega
        have HE := Lib.hid e
        clear e
        go_wp2
        go_round
        case rel => exact ⟨k + 1, by omega, by go_num, Lib.hid (by rw [HS.out, List.all_append, hI.out]; have := HE.out; simp; omega)⟩
        case measure => simp [intOf]; omega
    · obtain rfl : k = L.length := by omega
      rw [List.take_length] at hI
      go_wp2
      go_ret
      exact ⟨ret_bool (by rw [E.out, hI.out]), HG.out⟩
def plLv (t : Int) (lv : Value) : Value := if t = 10 then lv else .slice none 0 0
theorem num_facts {t : Int} (h : numB t = true) : 1 ≤ t ∧ t ≤ 6 := by unfold numB at h; simp at h; omega
theorem txt_facts {t : Int} (h : txtB t = true) : 7 ≤ t ∧ t ≤ 9 := by unfold txtB at h; simp at h; omega
theorem pl_num {m : Msg} {t sl : Int} (h : numB t = true) (h0 : 0 ≤ sl) (h6 : sl < 6) : plN m t sl = m.n sl.toNat ∧ plS m t sl = ⟨#[]⟩ ∧ plL m t = [] ∧ ∀ lv, plLv t lv = .slice none 0 0 := by
  have := num_facts h
  unfold plN plS plL plLv
  rw [if_pos ⟨h, h0, h6⟩, if_neg (by unfold txtB; simp; omega), if_neg (by omega)]
  exact ⟨rfl, rfl, rfl, fun _ => by rw [if_neg (by omega)]⟩
theorem pl_txt {m : Msg} {t sl : Int} (h : txtB t = true) (h0 : 0 ≤ sl) (h2 : sl < 2) : plN m t sl = 0 ∧ plS m t sl = m.s sl.toNat ∧ plL m t = [] ∧ ∀ lv, plLv t lv = .slice none 0 0 := by
  have := txt_facts h
  unfold plN plS plL plLv
  rw [if_neg (show ¬ (numB t = true ∧ 0 ≤ sl ∧ sl < 6) from by unfold numB; simp; omega), if_pos ⟨h, h0, h2⟩, if_neg (by omega)]
  exact ⟨rfl, rfl, rfl, fun _ => by rw [if_neg (by omega)]⟩
theorem pl_list {m : Msg} {sl : Int} : plN m 10 sl = 0 ∧ plS m 10 sl = ⟨#[]⟩ ∧ plL m 10 = m.l ∧ ∀ lv, plLv 10 lv = lv := ⟨by unfold plN; rw [if_neg (by simp [numB])], by unfold plS; rw [if_neg (by simp [txtB])], rfl, fun _ => rfl⟩
theorem pl_none {m : Msg} {t sl : Int} (hn : ¬ (numB t = true ∧ 0 ≤ sl ∧ sl < 6)) (ht : ¬ (txtB t = true ∧ 0 ≤ sl ∧ sl < 2)) (h10 : t ≠ 10) : plN m t sl = 0 ∧ plS m t sl = ⟨#[]⟩ ∧ plL m t = [] ∧ ∀ lv, plLv t lv = .slice none 0 0 := by
  unfold plN plS plL plLv
  rw [if_neg hn, if_neg ht, if_neg h10]
  exact ⟨rfl, rfl, rfl, fun _ => by rw [if_neg h10]⟩
def PlP (m : Msg) (t sl : Int) (lv : Value) (w : World) (e : Ending) (w' : World) : Prop := e = .returned (.tuple #[.int .u64 (plN m t sl : Nat), .string (plS m t sl), plLv t lv]) ∧ Grew w w'
theorem plP_mk {m : Msg} {t sl : Int} {lv : Value} {w w' : World} {n : Nat} {s : ByteArray} {l u : Value} {x : List ByteArray} (h : plN m t sl = n ∧ plS m t sl = s ∧ plL m t = x ∧ ∀ lv, plLv t lv = u) (hu : u = l) (g : Grew w w') : PlP m t sl lv w (.returned (.tuple #[.int .u64 (n : Nat), .string s, l])) w' := by
  unfold PlP; rw [h.1, h.2.1, h.2.2.2, hu]; exact ⟨rfl, g⟩
theorem plP_list {m : Msg} {sl : Int} {lv : Value} {w w' : World} (g : Grew w w') : PlP m 10 sl lv w (.returned (.tuple #[.int .u64 0, .string ⟨#[]⟩, lv])) w' := by
  unfold PlP; rw [(pl_list (m := m) (sl := sl)).1, (pl_list (m := m) (sl := sl)).2.1]; exact ⟨rfl, g⟩
set_option maxRecDepth 100000 in
set_option maxHeartbeats 4000000 in
theorem place_any (m : Msg) (a : Option Addr) (c : Nat) (nm t sl : Int) (w : World) :
    Calls Tryz.prog 64 #[.agg (msgA m (.slice a m.l.length c)), .agg #[.int .i64 nm, .int .i64 t, .int .i64 sl]] w (PlP m t sl (.slice a m.l.length c) w) := by
  simp only [msgA]
  by_cases hN : numB t = true ∧ 0 ≤ sl ∧ sl < 6
  · obtain ⟨hn, h0, h6⟩ := hN
    have E := Lib.hid (pl_num (m := m) hn h0 h6)
    obtain ⟨z1, z2⟩ := num_facts hn
    clear hn
    rcases int6 h0 h6 with rfl | rfl | rfl | rfl | rfl | rfl
    all_goals (
      clear h0 h6
      go_enter Tryz.func64, Tryz.ntmps64
      go_wp2
      go_ret3
      exact plP_mk E.out rfl (grew2 _ _ _))
  by_cases hT : txtB t = true ∧ 0 ≤ sl ∧ sl < 2
  · obtain ⟨hn, h0, h2⟩ := hT
    have E := Lib.hid (pl_txt (m := m) hn h0 h2)
    obtain ⟨z1, z2⟩ := txt_facts hn
    clear hn hN
    rcases (show sl = 0 ∨ sl = 1 by omega) with rfl | rfl
    all_goals (
      clear h0 h2
      go_enter Tryz.func64, Tryz.ntmps64
      go_wp2
      go_quiet (fail)
      go_wp2
      go_ret3
      exact plP_mk E.out rfl ((grew2 _ _ _).trans (Drew.grew ⟨_, rfl⟩)))
  by_cases h10 : t = 10
  · subst h10
    have E := Lib.hid (pl_list (m := m) (sl := sl))
    clear hN hT
    go_enter Tryz.func64, Tryz.ntmps64
    go_wp2
    go_quiet (fail)
    go_wp2
    go_ret3
    exact plP_list ((grew2 _ _ _).trans (Drew.grew ⟨_, rfl⟩))
  have E := Lib.hid (pl_none (m := m) hN hT h10)
  have ht : (t == 10) = false := by simpa using h10
  by_cases q1 : t < 1
  · clear hN hT h10
    go_enter Tryz.func64, Tryz.ntmps64
    go_wp2
    go_ret3
    exact plP_mk E.out rfl (grew2 _ _ _)
  by_cases q6 : t ≤ 6
  · have hs : sl < 0 ∨ 6 ≤ sl := by
      by_cases h0 : 0 ≤ sl
      · by_cases h6 : sl < 6
        · exact absurd ⟨by unfold numB; simp; omega, h0, h6⟩ hN
        · omega
      · omega
    have q1' : 1 ≤ t := by omega
    clear hN hT h10 q1
    rcases hs with hs | hs
    all_goals (
      go_enter Tryz.func64, Tryz.ntmps64
      go_wp2
      go_ret3
      exact plP_mk E.out rfl (grew2 _ _ _))
  by_cases q9 : t ≤ 9
  · have hs : sl < 0 ∨ 2 ≤ sl := by
      by_cases h0 : 0 ≤ sl
      · by_cases h6 : sl < 2
        · exact absurd ⟨by unfold txtB; simp; omega, h0, h6⟩ hT
        · omega
      · omega
    have q1' : 1 ≤ t := by omega
    have q7 : 7 ≤ t := by omega
    clear hN hT h10 q1
    rcases hs with hs | hs
    all_goals (
      go_enter Tryz.func64, Tryz.ntmps64
      go_wp2
      go_ret3
      exact plP_mk E.out rfl (grew2 _ _ _))
  · have q1' : 1 ≤ t := by omega
    have q7 : 7 ≤ t := by omega
    clear hN hT h10 q1
    go_enter Tryz.func64, Tryz.ntmps64
    go_wp2
    go_ret3
    exact plP_mk E.out rfl (grew2 _ _ _)
set_option maxRecDepth 100000 in
set_option maxHeartbeats 4000000 in
theorem rdefault_any (m : Msg) (a : Option Addr) (c : Nat) (nm t sl : Int) (w : World) :
    Calls Tryz.prog 63 #[.agg (msgA m (.slice a m.l.length c)), .agg #[.int .i64 nm, .int .i64 t, .int .i64 sl]] w fun e w' => e = .returned (.bool (defB m t sl)) ∧ Grew w w' := by
  have KP := Lib.hid (fun W => place_any m a c nm t sl W)
  simp only [msgA] at KP ⊢
  have hlv : ∃ a' c', plLv t (.slice a m.l.length c) = .slice a' (plL m t).length c' := by
    unfold plLv plL; split
    · exact ⟨_, _, rfl⟩
    · exact ⟨_, _, rfl⟩
  obtain ⟨a', c', hlv⟩ := hlv
  have HLV := Lib.hid hlv
  have hd : defB m t sl = (plN m t sl == 0 && (plS m t sl).toList.isEmpty && (plL m t).length == 0) := rfl
  have e1 := ibeq0 (plN m t sl)
  have e2 := ibeq0 (plL m t).length
  have HD := Lib.hid hd
  clear hlv hd
  go_enter Tryz.func63, Tryz.ntmps63
  go_wp2_with fail
  refine (KP.out _).mono ?_
  rintro e w1 ⟨rfl, g1⟩
  rw [HLV.out]
  have g2 := (grew2 _ _ _).trans g1
  generalize plN m t sl = N at e1 HD ⊢
  generalize plS m t sl = S at HD ⊢
  generalize (plL m t).length = L at e2 HD ⊢
  clear g1 KP HLV
  have HG := Lib.hid g2
  clear g2
  cases c1 : N == 0 with
  | false =>
    rw [c1] at e1 HD
    clear c1
    go_wp2
    go_ret
    exact ⟨ret_bool (by rw [HD.out]; rfl), HG.out⟩
  | true =>
    rw [c1] at e1 HD
    clear c1
    cases c2 : S.toList.isEmpty with
    | false =>
      rw [c2] at HD
      have c3 : S.toList ≠ [] := by intro e; rw [e] at c2; cases c2
      go_wp2
      go_ret
      exact ⟨ret_bool (by rw [HD.out]; rfl), HG.out⟩
    | true =>
      rw [c2] at HD
      have c3 : S.toList = [] := by simpa using c2
      go_wp2
      go_ret
      exact ⟨ret_bool (by rw [HD.out, ← e2]; rfl), HG.out⟩
end Go.Proofs.YtbjoohafgkodcaaGreat
