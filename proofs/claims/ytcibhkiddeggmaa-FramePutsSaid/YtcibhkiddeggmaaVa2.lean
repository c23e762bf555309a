/- Slices of texts: slices.Equal, slices.Clone, rescriptref01.Texts; value.Copy, value.Same, rescriptref09.Same: contracts. -/
import Derived.Test.YtcibhkiddeggmaaVa1
namespace Go.Proofs.Ytcibhkiddeggmaa
open Go Go.RowKit Go.Shelf

theorem tx_get (l : List ByteArray) (j : Nat) (h : j < l.length) : (l.map Value.string)[j]? = some (.string l[j]) := by simp [h]
theorem tne_of (a b : List ByteArray) (h : a ≠ b) : (a == b) = false := by rw [beq_eq_false_iff_ne]; exact h
theorem tx_len {w : World} {v : Value} {l : List ByteArray} (h : Tx w v l) : ∃ a c, v = .slice a l.length c := by
  obtain ⟨a, c, h, _⟩ := h.open
  exact ⟨a, c, h⟩
set_option maxHeartbeats 1000000 in
theorem tequal_any (a b : List ByteArray) (va vb : Value) (w : World) (ha : Tx w va a) (hb : Tx w vb b) :
    Calls Try.prog 72 #[va, vb] w fun e w' => e = .returned (.bool (a == b)) ∧ Drew w w' := by
  obtain ⟨aa, ca, rfl, a1, a2, -, ah⟩ := ha.open
  obtain ⟨ab, cb, rfl, b1, b2, -, bh⟩ := hb.open
  unfold maxLen at a2 b2
  by_cases hlen : a.length = b.length
  · have hl1 : ((a.length : Int) != (b.length : Int)) = false := by simp [hlen]
    have hl2 : b.length ≤ a.length ∧ a.length ≤ b.length := by omega
    have HL := Lib.hid hlen
    clear hlen
    go_enter Try.func72, Try.ntmps72
    go_wp2
    go_loopw [13] (fun i wr => (∃ k : Nat, k ≤ a.length ∧ i = .int .i64 k ∧ RowKit.Hid (a.take k = b.take k)) ∧ Drew w wr) (fun i _ => a.length - (intOf i).toNat)
    case atStart => exact ⟨⟨0, Nat.zero_le _, rfl, rfl⟩, 0, rfl⟩
    case round =>
      obtain ⟨⟨k, hk, rfl, HT⟩, n, rfl⟩ := hrel
      by_cases hlt : k < a.length
      · obtain ⟨b1, o1, rfl, h1⟩ := ah (by omega)
        obtain ⟨b2, o2, rfl, h2⟩ := bh (by omega)
        have c1 := h1 k _ (tx_get a k hlt)
        have c2 := h2 k _ (tx_get b k (by omega))
        clear h1 h2 ah bh
        by_cases he : a[k] = b[k]
        · have hts := take_succ_eq a b k hlt (by omega) HT.out he
          have HTS := Lib.hid hts
          have HE := Lib.hid he
          have e1 : (a[k].toList == b[k].toList) = true := by rw [he]; simp
          generalize a[k] = x at c1 e1 he
          generalize b[k] = y at c2 e1 he
          clear hts he HE
          go_wp2
          go_quiet (fail)
          go_wp2
          go_roundw
          case rel => exact ⟨⟨k + 1, by omega, by go_num, HTS⟩, ⟨_, rfl⟩⟩
          case measure => simp [intOf]; omega
        · have hne := tne_of a b (fun e => by subst e; exact he rfl)
          have HNE := Lib.hid hne
          have e1 : (a[k].toList == b[k].toList) = false := by rw [← beq_toListBytes]; simpa using he
          generalize a[k] = x at c1 e1 he
          generalize b[k] = y at c2 e1 he
          clear hne he
          go_wp2
          go_quiet (fail)
          go_wp2
          go_ret
          exact ⟨ret_bool HNE.out.symm, Drew.more ⟨_, rfl⟩ _⟩
      · obtain rfl : k = a.length := by omega
        go_wp2
        go_ret
        have : a = b := by have h := HT.out; rwa [List.take_length, List.take_of_length_le (by have := HL.out; omega)] at h
        exact ⟨ret_bool (by subst this; simp), _, rfl⟩
  · have hl1 : ((a.length : Int) != (b.length : Int)) = true := by simp; omega
    have HL := Lib.hid hlen
    clear hlen ah bh
    go_enter Try.func72, Try.ntmps72
    go_wp2
    go_ret
    exact ⟨ret_bool (tne_of a b (fun e => by subst e; exact HL.out rfl)).symm, 0, rfl⟩

theorem info_str : (Try.prog.info? 9).map (fun i => (i.zero, i.size, i.bytes)) = some (some (.string ⟨#[]⟩), 1, 16) := by kernel_rfl
theorem tx_one (l : List ByteArray) : ∀ u ∈ l.map Value.string, u.oneCell' = true := by
  intro u hu; obtain ⟨_, _, rfl⟩ := List.mem_map.1 hu; rfl
theorem ownT_nil (w : World) (base : Nat) : OwnT w base (.slice none 0 0) [] := World.ownsRow_nil _ _ _ _
set_option maxHeartbeats 1000000 in
/-- nil for nil, else a row of its own -/
theorem tclone_any (l : List ByteArray) (va : Value) (w : World) (ha : Tx w va l) (hlen : l.length ≤ 1000000000000) :
    Calls Try.prog 37 #[va] w fun e w' => ∃ v, e = .returned v ∧ OwnT w' w.heap.size v l ∧ Grew w w' ∧ (va = .slice none 0 0 → v = .slice none 0 0) := by
  have he := fun (w : World) (a : Option Addr) (n c : Nat) => Lib.run_eql_slice_nil (P := Try.prog) w 42 9 a n c 0 0 Try.underlying42
  rcases ha.shape with ⟨rfl, h0, h1⟩ | ⟨ad, cap, rfl, h1, h2, h3, h4⟩
  · obtain rfl : l = [] := List.eq_nil_of_length_eq_zero h0
    go_enter Try.func37, Try.ntmps37
    go_wp2
    go_ret
    exact ⟨_, rfl, ownT_nil _ _, Below.refl _ _, fun _ => rfl⟩
  · clear h4
    obtain ⟨i0, hi, hz0, hz1, hz2⟩ := info_parts info_str
    have HA := Lib.hid ha
    clear ha
    go_enter Try.func37, Try.ntmps37
    go_wp2_with (at_builtin; refine wpList_app rfl _ _ 42 rfl w.heap.size 9 i0 (.string ⟨#[]⟩) 1 16 Try.underlying42 hi hz0 hz1 hz2 rfl (by decide) _ 0 [] rfl (World.ownsRow_lit _ #[] 0 (Nat.le_refl _) (Nat.zero_le _) rfl) _ l.length _ rfl (HA.out.grew ((Below.refl _ _).alloc (Nat.le_refl _) _)) (tx_one l) (by unfold maxLen; omega) (by omega) (by simp) ?_; intro v' w1 hown1 hg1)
    have hB1 : Below w.heap.size _ w1 := grownBy_below hg1 (World.ownsRow_lit (e := 9) (size := 1) w #[] 0 (Nat.le_refl _) (Nat.zero_le _) (by rfl)) (by simp)
    go_ret
    exact ⟨_, rfl, by simpa using hown1, ((Below.refl _ _).alloc (Nat.le_refl _) _).trans hB1, fun h => by cases h⟩
theorem sameB_1 {a b : Msg} (h : (a.k == b.k) = false) : sameB a b = false := by unfold sameB; rw [h]; rfl
theorem sameB_2 {a b : Msg} (h : (nL a == nL b) = false) : sameB a b = false := by unfold sameB; rw [h]; simp
theorem sameB_3 {a b : Msg} (h : (sL a == sL b) = false) : sameB a b = false := by unfold sameB; rw [h]; simp
theorem sameB_4 {a b : Msg} (h1 : (a.k == b.k) = true) (h2 : (nL a == nL b) = true) (h3 : (sL a == sL b) = true) : sameB a b = (a.l == b.l) := by unfold sameB; rw [h1, h2, h3]; rfl
theorem msg_eqn (a b : Msg) (W : World) : (binOp .eql 40 (.agg #[.int .u64 (a.n 0), .int .u64 (a.n 1), .int .u64 (a.n 2), .int .u64 (a.n 3), .int .u64 (a.n 4), .int .u64 (a.n 5)]) (.agg #[.int .u64 (b.n 0), .int .u64 (b.n 1), .int .u64 (b.n 2), .int .u64 (b.n 3), .int .u64 (b.n 4), .int .u64 (b.n 5)])).run Try.prog W = .ok (.bool (nL a == nL b)) W := by
  have h := run_equal_ints (P := Try.prog) (d := 9998) (t := 40) (e := 39) (k := .u64) (w := W) (nL a) (nL b) 6 rfl rfl Try.underlying40 Try.underlying39 (by kernel_rfl)
  rw [run_eql_struct]
  have e : ∀ m : Msg, ((nL m).map (Value.int .u64)).toArray = #[.int .u64 (m.n 0), .int .u64 (m.n 1), .int .u64 (m.n 2), .int .u64 (m.n 3), .int .u64 (m.n 4), .int .u64 (m.n 5)] := fun _ => rfl
  rw [e, e] at h
  rw [h]
  rfl
theorem msg_eqs (a b : Msg) (W : World) : (binOp .eql 41 (.agg #[.string (a.s 0), .string (a.s 1)]) (.agg #[.string (b.s 0), .string (b.s 1)])).run Try.prog W = .ok (.bool (sL a == sL b)) W := by
  have h := run_equal_texts (P := Try.prog) (d := 9998) (t := 41) (e := 9) (w := W) (sL a) (sL b) 2 rfl rfl Try.underlying41 Try.underlying9 (by kernel_rfl)
  rw [run_eql_struct]
  have e : ∀ m : Msg, ((sL m).map Value.string).toArray = #[.string (m.s 0), .string (m.s 1)] := fun _ => rfl
  rw [e, e] at h
  rw [h]
  rfl
set_option maxRecDepth 100000 in
set_option maxHeartbeats 4000000 in
theorem vsame_any (a b : Msg) (va vb : Value) (w : World) (ha : Tx w va a.l) (hb : Tx w vb b.l) :
    Calls Try.prog 50 #[.agg (msgA a va), .agg (msgA b vb)] w fun e w' => e = .returned (.bool (sameB a b)) ∧ Grew w w' := by
  have hg := grew2 w (.cells (msgA a va) 44) (.cells (msgA b vb) 44)
  have KT := Lib.hid (tequal_any a.l b.l va vb _ (ha.grew hg) (hb.grew hg))
  obtain ⟨aa, ca, rfl⟩ := tx_len ha
  obtain ⟨ab, cb, rfl⟩ := tx_len hb
  have HG := Lib.hid hg
  simp only [msgA] at HG KT ⊢
  clear ha hb hg
  have hek : ((a.k : Int) == (b.k : Int)) = (a.k == b.k) := by rw [Bool.eq_iff_iff]; simp; omega
  cases h1 : a.k == b.k with
  | false =>
    have E := Lib.hid (sameB_1 h1)
    rw [h1] at hek
    clear h1
    go_enter Try.func50, Try.ntmps50
    go_wp2
    go_ret
    exact ⟨ret_bool (by rw [E.out]), HG.out⟩
  | true =>
  rw [h1] at hek
  have hen := fun W => msg_eqn a b W
  cases h2 : nL a == nL b with
  | false =>
    have E := Lib.hid (sameB_2 h2)
    rw [h2] at hen
    clear h1 h2
    go_enter Try.func50, Try.ntmps50
    go_wp2
    go_ret
    exact ⟨ret_bool (by rw [E.out]), HG.out⟩
  | true =>
  rw [h2] at hen
  have hes := fun W => msg_eqs a b W
  cases h3 : sL a == sL b with
  | false =>
    have E := Lib.hid (sameB_3 h3)
    rw [h3] at hes
    clear h1 h2 h3
    go_enter Try.func50, Try.ntmps50
    go_wp2
    go_ret
    exact ⟨ret_bool (by rw [E.out]), HG.out⟩
  | true =>
    rw [h3] at hes
    have E := Lib.hid (sameB_4 h1 h2 h3)
    clear h1 h2 h3
    go_enter Try.func50, Try.ntmps50
    go_wp2_with fail
    refine KT.out.mono ?_
    rintro e w1 ⟨rfl, d1⟩
    go_wp2
    go_ret
    exact ⟨ret_bool (by rw [E.out]), HG.out.trans d1.grew⟩
end Go.Proofs.Ytcibhkiddeggmaa
