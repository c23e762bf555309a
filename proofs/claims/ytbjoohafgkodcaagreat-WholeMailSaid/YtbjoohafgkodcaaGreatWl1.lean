/- varint.Zag, lenient.number, lenient.Set: contracts. -/
import Derived.Test.YtbjoohafgkodcaaGreatLe1
import Derived.Test.YtbjoohafgkodcaaGreatFld
import Derived.Lib.Zigzag
import Derived.Test.YtbjoohafgkodcaaGreatGrt
namespace Go.Proofs.YtbjoohafgkodcaaGreat
open Go Go.RowKit Go.Shelf
attribute [local go_sem] Oper.semAt_some

/-- a number with a sign out of one without -/
def zagI (n : Nat) : Int := if n % 2 = 0 then (n / 2 : Nat) else -((n / 2 : Nat) : Int) - 1
theorem zagI_wrap {n : Nat} (h : n < 18446744073709551616) : zagI n % 18446744073709551616 = (zagN n : Nat) := by
  unfold zagI zagN; split <;> omega
set_option maxHeartbeats 1000000 in
theorem zag_any (n : Nat) (hn : n < 18446744073709551616) (w : World) : Calls Tryz.prog 133 #[.int .u64 n] w fun e w' => e = .returned (.int .i64 (zagI n)) ∧ w = w' := by
  by_cases h0 : n % 2 = 0
  · have hz : zagI n = ((n / 2 : Nat) : Int) := by unfold zagI; rw [if_pos h0]
    have HZ := Lib.hid hz
    have e1 : ((n : Int) % 2 == 1) = false := by rw [beq_eq_false_iff_ne]; omega
    have e2 : wrap64 ((n : Int) / 2) = (n : Int) / 2 := by unfold wrap64; omega
    clear hz h0
    go_enter Tryz.func133, Tryz.ntmps133
    go_wp2
    go_ret
    exact ⟨ret_int (by rw [HZ.out]; omega), rfl⟩
  · have hz : zagI n = -((n / 2 : Nat) : Int) - 1 := by unfold zagI; rw [if_neg h0]
    have HZ := Lib.hid hz
    have e3 := Lib.i64_not (n / 2) (by omega)
    have HE := Lib.hid e3
    clear e3
    have e1 : ((n : Int) % 2 == 1) = true := by rw [beq_iff_eq]; omega
    have e2 : wrap64 ((n : Int) / 2) = (n : Int) / 2 := by unfold wrap64; omega
    clear hz h0
    go_enter Tryz.func133, Tryz.ntmps133
    go_wp2
    go_ret
    exact ⟨ret_int (by rw [HZ.out, ← HE.out]; rfl), rfl⟩
set_option maxHeartbeats 2000000 in
theorem number_any (t : Int) (n : Nat) (hn : n < 18446744073709551616) (w : World) : Calls Tryz.prog 115 #[.int .i64 t, .int .u64 n] w fun e w' => e = .returned (.int .u64 (numV t n : Nat)) ∧ w = w' := by
  by_cases h1 : t = 1
  · subst h1
    have HZ := Lib.hid (show numV 1 n = n % 4294967296 from by unfold numV; rw [if_pos rfl])
    go_enter Tryz.func115, Tryz.ntmps115
    go_wp2
    go_ret
    exact ⟨ret_int (by rw [HZ.out]; omega), rfl⟩
  by_cases h4 : t = 4
  · subst h4
    have HZ := Lib.hid (show numV 4 n = min n 1 from by unfold numV; rw [if_neg (by omega), if_pos rfl])
    go_enter Tryz.func115, Tryz.ntmps115
    go_wp2
    all_goals
      go_ret
      exact ⟨ret_int (by rw [HZ.out]; omega), rfl⟩
  by_cases h3 : t = 3
  · subst h3
    have HZ := Lib.hid (show numV 3 n = zagN n from by unfold numV; rw [if_neg (by omega), if_neg (by omega), if_pos rfl])
    have HW := Lib.hid (zagI_wrap hn)
    have KZ := Lib.hid (zag_any n hn w)
    go_enter Tryz.func115, Tryz.ntmps115
    go_wp2_with fail
    refine KZ.out.mono ?_
    rintro e w1 ⟨rfl, rfl⟩
    go_wp2
    go_ret
    exact ⟨ret_int (by rw [HZ.out, IntKind.wrap_u64, HW.out]), rfl⟩
  · have HZ := Lib.hid (show numV t n = n from by unfold numV; rw [if_neg h1, if_neg h4, if_neg h3])
    have q1 : (t == 1) = false := by simpa using h1
    have q4 : (t == 4) = false := by simpa using h4
    have q3 : (t == 3) = false := by simpa using h3
    clear h1 h3 h4
    go_enter Tryz.func115, Tryz.ntmps115
    go_wp2
    go_ret
    exact ⟨ret_int (by rw [HZ.out]), rfl⟩
/-- a text pushed on a row of the call's own -/
theorem strs_one (s : ByteArray) : ∀ u ∈ [Value.string s], u.oneCell' = true := by
  intro u hu; obtain rfl := List.mem_singleton.1 hu; rfl
theorem wpList_pushTx {W : World} {ops : Array Oper} {rest : List Oper} {o : Oper} {a : Act} {Q : Exit → Act → World → Prop} (hgd : o.guard = none) (s x : Operand)
    (ho : o.op = .call { callee := .builtin .append, args := #[s, x], argTypes := #[27, 27] })
    (base : Nat) (v : Value) (l : List ByteArray) (hs : a.eval s = v) (hown : OwnT W base v l) (xv : Value) (hx : a.eval x = xv) (y : ByteArray) (hsl : Sl W xv 1 1 [.string y])
    (hlen : l.length + 1 ≤ 1000000000) (hbase : base ≤ W.heap.size)
    (h : ∀ v' w', OwnT w' base v' (l ++ [y]) → Below base W w' → W.grownBy w' v.ownBlock → wpList Tryz.prog ops Q rest (a.put o.dst v') w') : wpList Tryz.prog ops Q (o :: rest) a W := by
  obtain ⟨i0, hi, hz0, hz1, hz2⟩ := info_parts info_str
  exact wpList_app hgd s x 27 ho base 9 i0 (.string ⟨#[]⟩) 1 16 Tryz.underlying27 hi hz0 hz1 hz2 rfl (by decide) v l.length (l.map Value.string) hs hown xv 1 [.string y] hx hsl (strs_one y) (by unfold maxLen; omega) (by omega) hbase
    fun v' w' h1 h2 => h v' w' (by rw [OwnT, List.length_append, List.map_append]; exact h1) (grownBy_below h2 hown hbase) h2
theorem tx_lit (W : World) (y : ByteArray) : Sl (W.alloc (.cells #[.string y] 9)) (.slice (some ⟨W.heap.size, 0, none⟩) 1 1) 1 1 [.string y] :=
  Sl.lit W 9 (0, 0) #[.string y] 1 1 rfl (by unfold maxLen; omega)
/-- what Set returns -/
def SetP (m : Msg) (t sl : Int) (x : Fld) (w : World) (e : Ending) (w' : World) : Prop :=
  ∃ v, e = .returned (.tuple #[.agg (msgA (setM m t sl x).1 v), .int .i64 ((setM m t sl x).2 : Nat)]) ∧ OwnT w' w.heap.size v (setM m t sl x).1.l ∧ Grew w w'
theorem msgA_setN (m : Msg) (lv : Value) (k v : Nat) (hk : k < 6) : (msgA m lv).setIfInBounds (1 + k) (.int .u64 (v : Nat)) = msgA ⟨m.k, fun i => if i = k then v else m.n i, m.s, m.l⟩ lv := by
  rcases (show k = 0 ∨ k = 1 ∨ k = 2 ∨ k = 3 ∨ k = 4 ∨ k = 5 by omega) with rfl | rfl | rfl | rfl | rfl | rfl <;> simp [msgA]
theorem msgA_setS (m : Msg) (lv : Value) (k : Nat) (s : ByteArray) (hk : k < 2) : (msgA m lv).setIfInBounds (7 + k) (.string s) = msgA ⟨m.k, m.n, fun i => if i = k then s else m.s i, m.l⟩ lv := by
  rcases (show k = 0 ∨ k = 1 by omega) with rfl | rfl <;> simp [msgA]
theorem msgA_getN (m : Msg) (lv : Value) (k : Nat) (hk : k < 6) : (msgA m lv)[1 + k]? = some (.int .u64 (m.n k : Nat)) := by
  rcases (show k = 0 ∨ k = 1 ∨ k = 2 ∨ k = 3 ∨ k = 4 ∨ k = 5 by omega) with rfl | rfl | rfl | rfl | rfl | rfl <;> rfl
theorem msgA_getS (m : Msg) (lv : Value) (k : Nat) (hk : k < 2) : (msgA m lv)[7 + k]? = some (.string (m.s k)) := by
  rcases (show k = 0 ∨ k = 1 by omega) with rfl | rfl <;> rfl
theorem msgA_z : msgA mZ (.slice none 0 0) = zMsg := rfl
theorem mostV_pos {t : Int} : decide (mostV t > 0) = true ↔ 7 ≤ t ∧ t ≤ 10 := by
  rw [decide_eq_true_eq]
  unfold mostV
  constructor
  · intro h
    repeat' split at h
    all_goals omega
  · intro h
    repeat' split
    all_goals omega
/-- a whole message is stored, cell by cell -/
def chainW (W : World) (b : Nat) (m : Msg) (lv : Value) : World :=
  ((((((((((W.setCell ⟨b, 0, none⟩ (.int .u8 m.k)).setCell ⟨b, 1, none⟩ (.int .u64 (m.n 0))).setCell ⟨b, 2, none⟩ (.int .u64 (m.n 1))).setCell ⟨b, 3, none⟩ (.int .u64 (m.n 2))).setCell ⟨b, 4, none⟩ (.int .u64 (m.n 3))).setCell ⟨b, 5, none⟩ (.int .u64 (m.n 4))).setCell ⟨b, 6, none⟩ (.int .u64 (m.n 5))).setCell ⟨b, 7, none⟩ (.string (m.s 0))).setCell ⟨b, 8, none⟩ (.string (m.s 1))).setCell ⟨b, 9, none⟩ lv)
theorem chain_blk {W : World} {b : Nat} {t : TypeId} {m0 : Msg} {lv0 : Value} (h : Blk W b t (msgA m0 lv0)) (m : Msg) (lv : Value) : Blk (chainW W b m lv) b t (msgA m lv) := by
  have e : (((((((((((msgA m0 lv0).setIfInBounds 0 (.int .u8 m.k)).setIfInBounds 1 (.int .u64 (m.n 0))).setIfInBounds 2 (.int .u64 (m.n 1))).setIfInBounds 3 (.int .u64 (m.n 2))).setIfInBounds 4 (.int .u64 (m.n 3))).setIfInBounds 5 (.int .u64 (m.n 4))).setIfInBounds 6 (.int .u64 (m.n 5))).setIfInBounds 7 (.string (m.s 0))).setIfInBounds 8 (.string (m.s 1))).setIfInBounds 9 lv) = msgA m lv := by simp [msgA]
  rw [← e]
  exact (((((((((h.set 0 _).set 1 _).set 2 _).set 3 _).set 4 _).set 5 _).set 6 _).set 7 _).set 8 _).set 9 _
theorem chain_other {W : World} {b c : Nat} {t : TypeId} {cs : Array Value} (h : Blk W c t cs) (hne : c ≠ b) (m : Msg) (lv : Value) : Blk (chainW W b m lv) c t cs :=
  (((((((((h.other ⟨b, 0, none⟩ _ hne).other ⟨b, 1, none⟩ _ hne).other ⟨b, 2, none⟩ _ hne).other ⟨b, 3, none⟩ _ hne).other ⟨b, 4, none⟩ _ hne).other ⟨b, 5, none⟩ _ hne).other ⟨b, 6, none⟩ _ hne).other ⟨b, 7, none⟩ _ hne).other ⟨b, 8, none⟩ _ hne).other ⟨b, 9, none⟩ _ hne
theorem chain_below {n : Nat} {w W : World} (h : Below n w W) {b : Nat} (hb : n ≤ b) (m : Msg) (lv : Value) : Below n w (chainW W b m lv) :=
  grew_set (grew_set (grew_set (grew_set (grew_set (grew_set (grew_set (grew_set (grew_set (grew_set h hb _) hb _) hb _) hb _) hb _) hb _) hb _) hb _) hb _) hb _
theorem chain_own {W : World} {base : Nat} {e : TypeId} {size : Nat} {v : Value} {n : Nat} {xs : List Value} (h : W.ownsRow base e size v n xs) {b : Nat} (hne : v.ownBlock ≠ some b) (m : Msg) (lv : Value) : (chainW W b m lv).ownsRow base e size v n xs :=
  own_set (own_set (own_set (own_set (own_set (own_set (own_set (own_set (own_set (own_set h _ _ hne) _ _ hne) _ _ hne) _ _ hne) _ _ hne) _ _ hne) _ _ hne) _ _ hne) _ _ hne) _ _ hne
theorem loadVar_msg (w : World) (b : Nat) (m : Msg) (lv : Value) (h : Blk w b 29 (msgA m lv)) : (loadVar 29 ⟨b, 0, none⟩).run Tryz.prog w = .ok (.agg (msgA m lv)) w :=
  run_loadVar_row w b _ _ _ (0, 0) _ h Tryz.underlying29 rfl (by kernel_rfl)
theorem ownT_none (w : World) (base : Nat) : OwnT w base (.slice none 0 0) [] := World.ownsRow_nil _ _ _ _
set_option maxRecDepth 100000 in
set_option maxHeartbeats 8000000 in
theorem lset_any (m : Msg) (lv : Value) (num t sl : Int) (x : Fld) (xv : Value) (w : World) (hl : Tx w lv m.l) (hlen : m.l.length ≤ 1000000) (hb : Bs w xv (fB x)) (hbl : (fB x).length ≤ 100000000) (hn : fN x < 18446744073709551616) :
    Calls Tryz.prog 92 #[.agg (msgA m lv), .agg #[.int .i64 num, .int .i64 t, .int .i64 sl], fldA x xv] w (SetP m t sl x w) := by
  obtain ⟨a, c, rfl⟩ := tx_len hl
  obtain ⟨xa, xc, rfl⟩ := bs_len hb
  obtain ⟨W0, hW0⟩ : ∃ W0, W0 = (((w.alloc (.cells (msgA m (.slice a m.l.length c)) 29)).alloc (.cells #[.int .i64 num, .int .i64 t, .int .i64 sl] 82)).alloc (.cells #[.int .i64 x.1, .int .u8 (x.2.1 : Nat), .int .u64 (x.2.2.1 : Nat), .slice xa (fB x).length xc, .int .i64 x.2.2.2.2] 101)).alloc (.cells zMsg 29) := ⟨_, rfl⟩
  have g0 : Grew w W0 := by rw [hW0]; exact ((((Below.refl _ _).alloc (Nat.le_refl _) _).alloc (by simp) _).alloc (by simp; omega) _).alloc (by simp; omega) _
  have k0 : Blk W0 w.heap.size 29 (msgA m (.slice a m.l.length c)) := by rw [hW0]; exact (((Blk.new _ _ _).alloc _).alloc _).alloc _
  have k1 : Blk W0 (w.heap.size + 1) 82 #[.int .i64 num, .int .i64 t, .int .i64 sl] := by rw [hW0]; exact ((Blk.at (by simp)).alloc _).alloc _
  have k2 : Blk W0 (w.heap.size + 1 + 1) 101 #[.int .i64 x.1, .int .u8 (x.2.1 : Nat), .int .u64 (x.2.2.1 : Nat), .slice xa (fB x).length xc, .int .i64 x.2.2.2.2] := by rw [hW0]; exact (Blk.at (by simp)).alloc _
  have k3 : Blk W0 (w.heap.size + 1 + 1 + 1) 29 zMsg := by rw [hW0]; exact Blk.at (by simp)
  have G0 := Lib.hid g0
  have K0 := Lib.hid k0
  have K1 := Lib.hid k1
  have K2 := Lib.hid k2
  have K3 := Lib.hid k3
  have HL := Lib.hid hl
  have HB := Lib.hid hb
  have KM := Lib.hid (fun w => most_any t w)
  have KC := Lib.hid (fun W g => copy_any m (.slice a m.l.length c) W (hl.grew (g : Grew w W)) (by omega))
  have HN := Lib.hid hn
  simp only [msgA, zMsg] at hW0 KC ⊢
  clear g0 k0 k1 k2 k3 hl hb
  go_enter Tryz.func92, Tryz.ntmps92
  go_upto_region 1 with (fail)
  rw [← hW0]
  clear hW0
  have s1 := K1.out.cell 1
  simp only [List.getElem?_toArray, List.getElem?_cons_zero, List.getElem?_cons_succ] at s1
  go_wp2_with fail
  refine (KM.out _).mono ?_
  rintro e w1 ⟨rfl, rfl⟩
  obtain ⟨c0, c1, c2, c3, c4, c5, c6, c7, c8, c9⟩ := mcells K0.out
  go_wp2_with fail
  refine (KC.out _ G0.out).mono ?_
  rintro e w2 ⟨v2, rfl, ho2, g2, -⟩
  obtain ⟨a2, c2', rfl⟩ := tx_len (Sl.of_own ho2)
  have K02 := K0.out.grew g2
  clear c0 c1 c2 c3 c4 c5 c6 c7 c8 c9 s1
  obtain ⟨c0, c1, c2, c3, c4, c5, c6, c7, c8, c9⟩ := mcells K02
  have fz := fun j => K02.frozen j
  have f0 := fz 0
  have f1 := fz 1
  have f2 := fz 2
  have f3 := fz 3
  have f4 := fz 4
  have f5 := fz 5
  have f6 := fz 6
  have f7 := fz 7
  have f8 := fz 8
  have f9 := fz 9
  clear fz KM KC
  go_upto_region 4 with (fail)
  obtain ⟨W3, hW3⟩ : ∃ W3, W3 = chainW w2 w.heap.size m (.slice a2 m.l.length c2') := ⟨_, rfl⟩
  have hz2 : w.heap.size ≤ w2.heap.size := by have := G0.out.size; have := g2.size; omega
  have e2 : Grew w w2 := G0.out.trans g2
  have K3m := Lib.hid (show Blk W3 w.heap.size 29 (msgA m (.slice a2 m.l.length c2')) by rw [hW3]; exact chain_blk K02 _ _)
  have K31 := Lib.hid (show Blk W3 (w.heap.size + 1) 82 _ by rw [hW3]; exact chain_other (K1.out.grew g2) (by omega) _ _)
  have K32 := Lib.hid (show Blk W3 (w.heap.size + 1 + 1) 101 _ by rw [hW3]; exact chain_other (K2.out.grew g2) (by omega) _ _)
  have K33 := Lib.hid (show Blk W3 (w.heap.size + 1 + 1 + 1) 29 zMsg by rw [hW3]; exact chain_other (K3.out.grew g2) (by omega) _ _)
  have G3 := Lib.hid (show Grew w W3 by rw [hW3]; exact chain_below e2 (Nat.le_refl _) _ _)
  have hw0 : w.heap.size + 4 ≤ W0.heap.size := K3.out.lt
  have HO3 := Lib.hid (show OwnT W3 (w.heap.size + 4) (.slice a2 m.l.length c2') m.l by rw [hW3]; exact own_mono (chain_own ho2 (fun e => by have := (own_lt ho2 _ e).1; omega) _ _) hw0)
  unfold chainW at hW3
  rw [← hW3]
  clear hW3 e2 hz2 hw0 ho2 g2 K02 K0 K1 K2 K3 G0 c0 c1 c2 c3 c4 c5 c6 c7 c8 c9 f0 f1 f2 f3 f4 f5 f6 f7 f8 f9
  obtain ⟨c0, c1, c2, c3, c4, c5, c6, c7, c8, c9⟩ := mcells K3m.out
  have s1 := K31.out.cell 1
  have s2 := K31.out.cell 2
  simp only [List.getElem?_toArray, List.getElem?_cons_zero, List.getElem?_cons_succ] at s1 s2
  obtain ⟨y0, y1, y2, y3, y4, -⟩ := cells5 K32.out
  obtain ⟨o0, o1, o2, o3, o4, o5, o6, o7, o8, o9⟩ := mcells (show Blk W3 (w.heap.size + 1 + 1 + 1) 29 (msgA mZ (.slice none 0 0)) from K33.out)
  have fz := fun j => K33.out.frozen j
  have f0 := fz 0
  have f1 := fz 1
  have f2 := fz 2
  have f3 := fz 3
  have f4 := fz 4
  have f5 := fz 5
  have f6 := fz 6
  have f7 := fz 7
  have f8 := fz 8
  have f9 := fz 9
  clear fz
  have HB3 := Lib.hid (HB.out.grew G3.out)
  by_cases h10 : t = 10
  · subst h10
    by_cases h64 : 64 ≤ m.l.length
    · have q1 : decide ((m.l.length : Int) ≥ 64) = true := decide_eq_true (by omega)
      have E := Lib.hid (show setM m 10 sl x = (mZ, 2) by unfold setM; rw [if_pos rfl, if_pos h64])
      clear h64
      go_wp2
      refine bodyPost_ret (results_ct rfl _ _ ⟨w.heap.size + 1 + 1 + 1, 0, none⟩ _ _ rfl rfl (loadVar_msg _ _ mZ (.slice none 0 0) (chain_blk (m0 := mZ) (lv0 := .slice none 0 0) K33.out mZ (.slice none 0 0)))) rfl ?_
      refine ⟨.slice none 0 0, by rw [E.out]; rfl, by rw [E.out]; exact ownT_none _ _, chain_below (m := mZ) (lv := .slice none 0 0) G3.out (by omega)⟩
    · have q1 : decide ((m.l.length : Int) ≥ 64) = false := decide_eq_false (by omega)
      have CV := conv_bs (fB x) _ W3 HB3.out
      have KU := Lib.hid (ucheck_any (bS (fB x)) (mostV 10) (by rw [bS_size]; omega) W3)
      obtain ⟨E, hE⟩ : ∃ E, E = chkV (bS (fB x)) 64 := ⟨_, rfl⟩
      rw [show mostV 10 = 64 from rfl, ← hE] at KU
      have HE := Lib.hid hE
      have H64 := Lib.hid h64
      clear h64 hE
      go_wp2_with fail
      refine KU.out.mono ?_
      rintro e w4 ⟨rfl, g4⟩
      have K4m := Lib.hid (K3m.out.grew g4)
      have K43 := Lib.hid (K33.out.grew g4)
      have K42 := Lib.hid (K32.out.grew g4)
      have HO4 := Lib.hid (own_grew HO3.out g4)
      have HB4 := Lib.hid (HB3.out.grew g4)
      have G4 := Lib.hid (G3.out.trans g4)
      clear c0 c1 c2 c3 c4 c5 c6 c7 c8 c9 s1 s2 y0 y1 y2 y3 y4 o0 o1 o2 o3 o4 o5 o6 o7 o8 o9 f0 f1 f2 f3 f4 f5 f6 f7 f8 f9 g4 CV
      obtain ⟨o0, o1, o2, o3, o4, o5, o6, o7, o8, o9⟩ := mcells (show Blk w4 (w.heap.size + 1 + 1 + 1) 29 (msgA mZ (.slice none 0 0)) from K43.out)
      have fz := fun j => K43.out.frozen j
      have f0 := fz 0
      have f1 := fz 1
      have f2 := fz 2
      have f3 := fz 3
      have f4 := fz 4
      have f5 := fz 5
      have f6 := fz 6
      have f7 := fz 7
      have f8 := fz 8
      have f9 := fz 9
      clear fz
      by_cases he : E ≠ 0
      · have qe : ((E : Int) != 0) = true := by simp; omega
        have HS := Lib.hid (show setM m 10 sl x = (mZ, E) by unfold setM; rw [if_pos rfl, if_neg H64.out, if_pos (by rw [← HE.out]; exact he), ← HE.out])
        clear he
        go_wp2
        refine bodyPost_ret (results_ct rfl _ _ ⟨w.heap.size + 1 + 1 + 1, 0, none⟩ _ _ rfl rfl (loadVar_msg _ _ mZ (.slice none 0 0) (chain_blk (m0 := mZ) (lv0 := .slice none 0 0) K43.out mZ (.slice none 0 0)))) rfl ?_
        refine ⟨.slice none 0 0, by rw [HS.out]; rfl, by rw [HS.out]; exact ownT_none _ _, chain_below (m := mZ) (lv := .slice none 0 0) G4.out (by omega)⟩
      · have qe : ((E : Int) != 0) = false := by simp; omega
        have HS := Lib.hid (show setM m 10 sl x = (⟨m.k, m.n, m.s, m.l ++ [bS (fB x)]⟩, 0) by unfold setM; rw [if_pos rfl, if_neg H64.out, if_neg (by rw [← HE.out]; exact he)])
        obtain ⟨c0, c1, c2, c3, c4, c5, c6, c7, c8, c9⟩ := mcells K4m.out
        obtain ⟨y0, y1, y2, y3, y4, -⟩ := cells5 K42.out
        have CV := conv_bs (fB x) _ w4 HB4.out
        clear he
        have g5 := grew_alloc w4 (.cells #[str (fB x)] 9)
        have HSL := Lib.hid (tx_lit w4 (bS (fB x)))
        have HO5 := Lib.hid (own_grew HO4.out g5)
        have K5m := Lib.hid (K4m.out.grew g5)
        have K53 := Lib.hid (K43.out.grew g5)
        have G5 := Lib.hid (G4.out.trans g5)
        have hsz : w.heap.size + 4 ≤ (w4.alloc (.cells #[str (fB x)] 9)).heap.size := K53.out.lt
        clear g5
        clear c0 c1 c2 c3 c4 c5 c6 c7 c8 o0 o1 o2 o3 o4 o5 o6 o7 o8 o9 f0 f1 f2 f3 f4 f5 f6 f7 f8 f9
        go_wp2_with (at_builtin; refine wpList_pushTx rfl _ _ rfl (w.heap.size + 4) _ m.l rfl HO5.out _ rfl (bS (fB x)) HSL.out (by omega) hsz ?_; intro v' w6 hown6 hB6 hgb; obtain ⟨a6, c6', e6⟩ : ∃ a c, v' = .slice a (m.l.length + 1) c := (by obtain ⟨a, c, e⟩ := tx_len (Sl.of_own hown6); exact ⟨a, c, by rw [e]; simp⟩); subst e6; have K6m := K5m.out.kept hgb (fun e => by have := (own_lt HO5.out _ e.symm).1; omega); have K63 := K53.out.kept hgb (fun e => by have := (own_lt HO5.out _ e.symm).1; omega); have H6 := Lib.hid hown6; have G6 := Lib.hid (Below.trans G5.out (hB6.mono (by omega : w.heap.size ≤ w.heap.size + 4))); have HB6 := Lib.hid (own_lt hown6); clear hown6 hB6 hgb c9; obtain ⟨c0, c1, c2, c3, c4, c5, c6, c7, c8, c9⟩ := mcells K6m; have z9 := K6m.frozen 9; obtain ⟨o0, o1, o2, o3, o4, o5, o6, o7, o8, o9⟩ := mcells (show Blk w6 (w.heap.size + 1 + 1 + 1) 29 (msgA mZ (.slice none 0 0)) from K63); have fz := fun j => K63.frozen j; have f0 := fz 0; have f1 := fz 1; have f2 := fz 2; have f3 := fz 3; have f4 := fz 4; have f5 := fz 5; have f6 := fz 6; have f7 := fz 7; have f8 := fz 8; have f9 := fz 9; clear fz)
        refine bodyPost_ret (results_ct rfl _ _ ⟨w.heap.size + 1 + 1 + 1, 0, none⟩ _ _ rfl rfl (loadVar_msg _ _ ⟨m.k, m.n, m.s, m.l ++ [bS (fB x)]⟩ (.slice a6 (m.l.length + 1) c6') (chain_blk (m0 := mZ) (lv0 := .slice none 0 0) (K63.other ⟨w.heap.size, 9, none⟩ _ (by simp; omega)) _ _))) rfl ?_
        refine ⟨.slice a6 (m.l.length + 1) c6', by rw [HS.out]; rfl, by rw [HS.out]; exact own_mono (chain_own (own_set H6.out _ _ (fun e => by have h8 : w.heap.size + 4 ≤ w.heap.size := (HB6.out _ e).1; omega)) (fun e => by have := (HB6.out _ e).1; omega) _ _) (by omega), chain_below (grew_set G6.out (Nat.le_refl _) _) (by omega) _ _⟩
  have q10 : (t == 10) = false := by simpa using h10
  by_cases htx : (7 ≤ t ∧ t ≤ 9) ∧ 0 ≤ sl ∧ sl < 2
  · obtain ⟨⟨h7, h9⟩, h0, h2⟩ := htx
    have htb := txtB_iff.2 ⟨h7, h9⟩
    have qm : decide (mostV t > 0) = true := mostV_pos.2 ⟨h7, by omega⟩
    obtain ⟨k, rfl⟩ := Int.eq_ofNat_of_zero_le h0
    have hk : k < 2 := by omega
    have CV := conv_bs (fB x) _ W3 HB3.out
    have KU := Lib.hid (ucheck_any (bS (fB x)) (mostV t) (by rw [bS_size]; omega) W3)
    obtain ⟨E, hE⟩ : ∃ E, E = chkV (bS (fB x)) (mostV t) := ⟨_, rfl⟩
    rw [← hE] at KU
    have HE := Lib.hid hE
    have HT := Lib.hid htb
    have H10 := Lib.hid h10
    clear hE htb h7 h9 h10 h0
    go_wp2_with fail
    refine KU.out.mono ?_
    rintro e w4 ⟨rfl, g4⟩
    have K4m := Lib.hid (K3m.out.grew g4)
    have K41 := Lib.hid (K31.out.grew g4)
    have K43 := Lib.hid (K33.out.grew g4)
    have K42 := Lib.hid (K32.out.grew g4)
    have HO4 := Lib.hid (own_grew HO3.out g4)
    have HB4 := Lib.hid (HB3.out.grew g4)
    have G4 := Lib.hid (G3.out.trans g4)
    clear c0 c1 c2 c3 c4 c5 c6 c7 c8 c9 s1 s2 y0 y1 y2 y3 y4 o0 o1 o2 o3 o4 o5 o6 o7 o8 o9 f0 f1 f2 f3 f4 f5 f6 f7 f8 f9 g4 CV
    obtain ⟨o0, o1, o2, o3, o4, o5, o6, o7, o8, o9⟩ := mcells (show Blk w4 (w.heap.size + 1 + 1 + 1) 29 (msgA mZ (.slice none 0 0)) from K43.out)
    have fz := fun j => K43.out.frozen j
    have f0 := fz 0
    have f1 := fz 1
    have f2 := fz 2
    have f3 := fz 3
    have f4 := fz 4
    have f5 := fz 5
    have f6 := fz 6
    have f7 := fz 7
    have f8 := fz 8
    have f9 := fz 9
    clear fz
    by_cases he : E ≠ 0
    · have qe : ((E : Int) != 0) = true := by simp; omega
      have HS := Lib.hid (show setM m t (k : Int) x = (mZ, E) by unfold setM; rw [if_neg H10.out, if_pos ⟨HT.out, by omega, h2⟩, if_pos (by rw [← HE.out]; exact he), ← HE.out])
      clear he
      go_wp2
      refine bodyPost_ret (results_ct rfl _ _ ⟨w.heap.size + 1 + 1 + 1, 0, none⟩ _ _ rfl rfl (loadVar_msg _ _ mZ (.slice none 0 0) (chain_blk (m0 := mZ) (lv0 := .slice none 0 0) K43.out mZ (.slice none 0 0)))) rfl ?_
      refine ⟨.slice none 0 0, by rw [HS.out]; rfl, by rw [HS.out]; exact ownT_none _ _, chain_below (m := mZ) (lv := .slice none 0 0) G4.out (by omega)⟩
    · have qe : ((E : Int) != 0) = false := by simp; omega
      have HS := Lib.hid (show setM m t (k : Int) x = (⟨m.k, m.n, fun i => if i = k then bS (fB x) else m.s i, m.l⟩, 0) by unfold setM; rw [if_neg H10.out, if_pos ⟨HT.out, by omega, h2⟩, if_neg (by rw [← HE.out]; exact he), Int.toNat_natCast])
      have cS := K4m.out.cell (7 + k)
      rw [msgA_getS _ _ _ hk] at cS
      have zS := K4m.out.frozen (7 + k)
      have s2 := K41.out.cell 2
      simp only [List.getElem?_toArray, List.getElem?_cons_zero, List.getElem?_cons_succ] at s2
      obtain ⟨y0, y1, y2, y3, y4, -⟩ := cells5 K42.out
      have CV := conv_bs (fB x) _ w4 HB4.out
      clear he
      go_upto_region 18 with (fail)
      have S1 : Blk (w4.setCell ⟨w.heap.size, 7 + k, none⟩ (.string (bS (fB x)))) w.heap.size 29 (msgA ⟨m.k, m.n, fun i => if i = k then bS (fB x) else m.s i, m.l⟩ (.slice a2 m.l.length c2')) := by
        have h := K4m.out.set (7 + k) (.string (bS (fB x)))
        rw [msgA_setS _ _ _ _ hk] at h; exact h
      have S2 : Blk (w4.setCell ⟨w.heap.size, 7 + k, none⟩ (.string (bS (fB x)))) (w.heap.size + 1 + 1 + 1) 29 (msgA mZ (.slice none 0 0)) := K43.out.other ⟨w.heap.size, 7 + k, none⟩ _ (by simp; omega)
      have S3 := own_set HO4.out ⟨w.heap.size, 7 + k, none⟩ (.string (bS (fB x))) (fun e => by have h8 : w.heap.size + 4 ≤ w.heap.size := (own_lt HO4.out _ e).1; omega)
      have S4 : Grew w (w4.setCell ⟨w.heap.size, 7 + k, none⟩ (.string (bS (fB x)))) := grew_set G4.out (Nat.le_refl _) _
      refine wp_region_lit ?_
      refine wpList_load_row rfl 29 _ rfl w.heap.size rfl 29 _ (0, 0) _ S1 Tryz.underlying29 rfl (by kernel_rfl) ?_
      refine wpList_store_row rfl 29 _ _ rfl (w.heap.size + 1 + 1 + 1) _ rfl rfl 29 _ S2 (by kernel_rfl) rfl (msgA_one _ _ _ _) ?_
      have HE3 := Lib.hid (own_lt HO4.out)
      have S5 := S2.row (msgA ⟨m.k, m.n, fun i => if i = k then bS (fB x) else m.s i, m.l⟩ (.slice a2 m.l.length c2'))
      have S6 := own_block S3 (w' := (w4.setCell ⟨w.heap.size, 7 + k, none⟩ (.string (bS (fB x)))).setRow (w.heap.size + 1 + 1 + 1) (msgA ⟨m.k, m.n, fun i => if i = k then bS (fB x) else m.s i, m.l⟩ (.slice a2 m.l.length c2'))) (fun g hg => setRow_other _ _ _ _ (fun e => by have := (HE3.out _ hg).1; omega))
      have S7 := below_setRow S4 (show w.heap.size ≤ w.heap.size + 1 + 1 + 1 by omega) (msgA ⟨m.k, m.n, fun i => if i = k then bS (fB x) else m.s i, m.l⟩ (.slice a2 m.l.length c2'))
      have H5 := Lib.hid S5
      have H6 := Lib.hid S6
      have H7 := Lib.hid S7
      clear S1 S2 S3 S4 S5 S6 S7
      go_wp2_with fail
      refine bodyPost_ret (results_ct rfl _ _ ⟨w.heap.size + 1 + 1 + 1, 0, none⟩ _ _ rfl rfl (loadVar_msg _ _ _ _ H5.out)) rfl ?_
      refine ⟨.slice a2 m.l.length c2', by rw [HS.out]; rfl, by rw [HS.out]; exact own_mono H6.out (by omega), H7.out⟩
  by_cases hnu : (1 ≤ t ∧ t ≤ 6) ∧ 0 ≤ sl ∧ sl < 6
  · obtain ⟨⟨h1, h6⟩, h0, h2⟩ := hnu
    have hnb := numB_iff.2 ⟨h1, h6⟩
    have qm : decide (mostV t > 0) = false := by rw [← Bool.not_eq_true, mostV_pos]; omega
    obtain ⟨k, rfl⟩ := Int.eq_ofNat_of_zero_le h0
    have hk : k < 6 := by omega
    have KN := Lib.hid (fun W => number_any t (fN x) HN.out W)
    have HS := Lib.hid (show setM m t (k : Int) x = (⟨m.k, fun i => if i = k then numV t (fN x) else m.n i, m.s, m.l⟩, 0) by unfold setM; rw [if_neg h10, if_neg (fun h => by have := txtB_iff.1 h.1; omega), if_pos ⟨hnb, h0, h2⟩, Int.toNat_natCast])
    clear hnb htx h10 h0
    clear c0 c1 c2 c3 c4 c5 c6 c7 c8 c9 o0 o1 o2 o3 o4 o5 o6 o7 o8 o9 f0 f1 f2 f3 f4 f5 f6 f7 f8 f9
    go_wp2
    refine wp_region_grew_tail 9 W3 (Below.refl _ _) (by kernel_rfl) (by kernel_rfl) ?_
    simp only [List.take_succ_cons, List.take_zero, List.drop_succ_cons, List.drop_zero]
    repeat (
      refine BigFrame.wpQuiet_want (by kernel_rfl) (fun K hK => ?_)
      apply Exists.intro
      apply And.intro
      · intro W hW
        have s1 := (K31.out.grew hW.out).cell 1
        have s2 := (K31.out.grew hW.out).cell 2
        simp only [List.getElem?_toArray, List.getElem?_cons_zero, List.getElem?_cons_succ] at s1 s2
        obtain ⟨y0, y1, y2, y3, y4, -⟩ := cells5 (K32.out.grew hW.out)
        go_simp
        first
          | done
          | with_reducible rfl
          | with_reducible exact q_calls hW (KN.out W) (fun _ _ h => ⟨h.1, h.2 ▸ Below.refl _ _⟩)
      refine hK _ ?_
      clear hK K
      simp only [Act.put, List.setIfInBounds_toArray, List.set_cons_zero, List.set_cons_succ])
    refine wpQuiet_nil ?_
    intro w5 g5
    have K5m := Lib.hid (K3m.out.grew g5.out)
    have K53 := Lib.hid (K33.out.grew g5.out)
    have HO5 := Lib.hid (own_grew HO3.out g5.out)
    have G5 := Lib.hid (G3.out.trans g5.out)
    have cS := K5m.out.cell (1 + k)
    rw [msgA_getN _ _ _ hk] at cS
    have zS := K5m.out.frozen (1 + k)
    clear s1 s2 y0 y1 y2 y3 y4 g5
    go_upto_region 18 with (fail)
    have S1 : Blk (w5.setCell ⟨w.heap.size, 1 + k, none⟩ (.int .u64 (numV t (fN x) : Nat))) w.heap.size 29 (msgA ⟨m.k, fun i => if i = k then numV t (fN x) else m.n i, m.s, m.l⟩ (.slice a2 m.l.length c2')) := by
      have h := K5m.out.set (1 + k) (.int .u64 (numV t (fN x) : Nat))
      rw [msgA_setN _ _ _ _ hk] at h; exact h
    have S2 : Blk (w5.setCell ⟨w.heap.size, 1 + k, none⟩ (.int .u64 (numV t (fN x) : Nat))) (w.heap.size + 1 + 1 + 1) 29 (msgA mZ (.slice none 0 0)) := K53.out.other ⟨w.heap.size, 1 + k, none⟩ _ (by simp; omega)
    have S3 := own_set HO5.out ⟨w.heap.size, 1 + k, none⟩ (.int .u64 (numV t (fN x) : Nat)) (fun e => by have h8 : w.heap.size + 4 ≤ w.heap.size := (own_lt HO5.out _ e).1; omega)
    have S4 : Grew w (w5.setCell ⟨w.heap.size, 1 + k, none⟩ (.int .u64 (numV t (fN x) : Nat))) := grew_set G5.out (Nat.le_refl _) _
    refine wp_region_lit ?_
    refine wpList_load_row rfl 29 _ rfl w.heap.size rfl 29 _ (0, 0) _ S1 Tryz.underlying29 rfl (by kernel_rfl) ?_
    refine wpList_store_row rfl 29 _ _ rfl (w.heap.size + 1 + 1 + 1) _ rfl rfl 29 _ S2 (by kernel_rfl) rfl (msgA_one _ _ _ _) ?_
    have HE3 := Lib.hid (own_lt HO5.out)
    have S5 := S2.row (msgA ⟨m.k, fun i => if i = k then numV t (fN x) else m.n i, m.s, m.l⟩ (.slice a2 m.l.length c2'))
    have S6 := own_block S3 (w' := (w5.setCell ⟨w.heap.size, 1 + k, none⟩ (.int .u64 (numV t (fN x) : Nat))).setRow (w.heap.size + 1 + 1 + 1) (msgA ⟨m.k, fun i => if i = k then numV t (fN x) else m.n i, m.s, m.l⟩ (.slice a2 m.l.length c2'))) (fun g hg => setRow_other _ _ _ _ (fun e => by have := (HE3.out _ hg).1; omega))
    have S7 := below_setRow S4 (show w.heap.size ≤ w.heap.size + 1 + 1 + 1 by omega) (msgA ⟨m.k, fun i => if i = k then numV t (fN x) else m.n i, m.s, m.l⟩ (.slice a2 m.l.length c2'))
    have H5 := Lib.hid S5
    have H6 := Lib.hid S6
    have H7 := Lib.hid S7
    clear S1 S2 S3 S4 S5 S6 S7
    go_wp2_with fail
    refine bodyPost_ret (results_ct rfl _ _ ⟨w.heap.size + 1 + 1 + 1, 0, none⟩ _ _ rfl rfl (loadVar_msg _ _ _ _ H5.out)) rfl ?_
    refine ⟨.slice a2 m.l.length c2', by rw [HS.out]; rfl, by rw [HS.out]; exact own_mono H6.out (by omega), H7.out⟩
  · have qm : decide (mostV t > 0) = decide (7 ≤ t ∧ t ≤ 10) := by rw [Bool.eq_iff_iff, mostV_pos, decide_eq_true_eq]
    have HS := Lib.hid (show setM m t sl x = (mZ, 7) by
      unfold setM
      rw [if_neg h10, if_neg (fun h => by have := txtB_iff.1 h.1; omega), if_neg (fun h => by have := numB_iff.1 h.1; omega)])
    clear c0 c1 c2 c3 c4 c5 c6 c7 c8 c9
    rcases (show ((7 ≤ t ∧ t ≤ 9) ∧ sl < 0) ∨ ((7 ≤ t ∧ t ≤ 9) ∧ 2 ≤ sl) ∨ ((1 ≤ t ∧ t ≤ 6) ∧ sl < 0) ∨ ((1 ≤ t ∧ t ≤ 6) ∧ 6 ≤ sl) ∨ t < 1 ∨ 10 < t by omega) with ⟨⟨u1, u2⟩, u3⟩ | ⟨⟨u1, u2⟩, u3⟩ | ⟨⟨u1, u2⟩, u3⟩ | ⟨⟨u1, u2⟩, u3⟩ | u1 | u1
    · rw [decide_eq_true (show 7 ≤ t ∧ t ≤ 10 by omega)] at qm
      have q1 : decide (sl ≥ 0) = false := decide_eq_false (by omega)
      have q2 : decide (t ≥ 1) = true := decide_eq_true (by omega)
      have q3 : decide (t ≤ 6) = false := decide_eq_false (by omega)
      clear htx hnu h10
      go_wp2
      refine bodyPost_ret (results_ct rfl _ _ ⟨w.heap.size + 1 + 1 + 1, 0, none⟩ _ _ rfl rfl (loadVar_msg _ _ mZ (.slice none 0 0) (chain_blk (m0 := mZ) (lv0 := .slice none 0 0) K33.out mZ (.slice none 0 0)))) rfl ?_
      refine ⟨.slice none 0 0, by rw [HS.out]; rfl, by rw [HS.out]; exact ownT_none _ _, chain_below (m := mZ) (lv := .slice none 0 0) G3.out (by omega)⟩
    · rw [decide_eq_true (show 7 ≤ t ∧ t ≤ 10 by omega)] at qm
      have q1 : decide (sl ≥ 0) = true := decide_eq_true (by omega)
      have q2 : decide (t ≥ 1) = true := decide_eq_true (by omega)
      have q3 : decide (t ≤ 6) = false := decide_eq_false (by omega)
      have q4 : decide (sl < 2) = false := decide_eq_false (by omega)
      clear htx hnu h10
      go_wp2
      refine bodyPost_ret (results_ct rfl _ _ ⟨w.heap.size + 1 + 1 + 1, 0, none⟩ _ _ rfl rfl (loadVar_msg _ _ mZ (.slice none 0 0) (chain_blk (m0 := mZ) (lv0 := .slice none 0 0) K33.out mZ (.slice none 0 0)))) rfl ?_
      refine ⟨.slice none 0 0, by rw [HS.out]; rfl, by rw [HS.out]; exact ownT_none _ _, chain_below (m := mZ) (lv := .slice none 0 0) G3.out (by omega)⟩
    · rw [decide_eq_false (show ¬ (7 ≤ t ∧ t ≤ 10) by omega)] at qm
      have q1 : decide (sl ≥ 0) = false := decide_eq_false (by omega)
      have q2 : decide (t ≥ 1) = true := decide_eq_true (by omega)
      have q3 : decide (t ≤ 6) = true := decide_eq_true (by omega)
      clear htx hnu h10
      go_wp2
      refine bodyPost_ret (results_ct rfl _ _ ⟨w.heap.size + 1 + 1 + 1, 0, none⟩ _ _ rfl rfl (loadVar_msg _ _ mZ (.slice none 0 0) (chain_blk (m0 := mZ) (lv0 := .slice none 0 0) K33.out mZ (.slice none 0 0)))) rfl ?_
      refine ⟨.slice none 0 0, by rw [HS.out]; rfl, by rw [HS.out]; exact ownT_none _ _, chain_below (m := mZ) (lv := .slice none 0 0) G3.out (by omega)⟩
    · rw [decide_eq_false (show ¬ (7 ≤ t ∧ t ≤ 10) by omega)] at qm
      have q1 : decide (sl ≥ 0) = true := decide_eq_true (by omega)
      have q2 : decide (t ≥ 1) = true := decide_eq_true (by omega)
      have q3 : decide (t ≤ 6) = true := decide_eq_true (by omega)
      have q4 : decide (sl < 6) = false := decide_eq_false (by omega)
      clear htx hnu h10
      go_wp2
      refine bodyPost_ret (results_ct rfl _ _ ⟨w.heap.size + 1 + 1 + 1, 0, none⟩ _ _ rfl rfl (loadVar_msg _ _ mZ (.slice none 0 0) (chain_blk (m0 := mZ) (lv0 := .slice none 0 0) K33.out mZ (.slice none 0 0)))) rfl ?_
      refine ⟨.slice none 0 0, by rw [HS.out]; rfl, by rw [HS.out]; exact ownT_none _ _, chain_below (m := mZ) (lv := .slice none 0 0) G3.out (by omega)⟩
    · rw [decide_eq_false (show ¬ (7 ≤ t ∧ t ≤ 10) by omega)] at qm
      have q2 : decide (t ≥ 1) = false := decide_eq_false (by omega)
      clear htx hnu h10
      go_wp2
      refine bodyPost_ret (results_ct rfl _ _ ⟨w.heap.size + 1 + 1 + 1, 0, none⟩ _ _ rfl rfl (loadVar_msg _ _ mZ (.slice none 0 0) (chain_blk (m0 := mZ) (lv0 := .slice none 0 0) K33.out mZ (.slice none 0 0)))) rfl ?_
      refine ⟨.slice none 0 0, by rw [HS.out]; rfl, by rw [HS.out]; exact ownT_none _ _, chain_below (m := mZ) (lv := .slice none 0 0) G3.out (by omega)⟩
    · rw [decide_eq_false (show ¬ (7 ≤ t ∧ t ≤ 10) by omega)] at qm
      have q2 : decide (t ≥ 1) = true := decide_eq_true (by omega)
      have q3 : decide (t ≤ 6) = false := decide_eq_false (by omega)
      clear htx hnu h10
      go_wp2
      refine bodyPost_ret (results_ct rfl _ _ ⟨w.heap.size + 1 + 1 + 1, 0, none⟩ _ _ rfl rfl (loadVar_msg _ _ mZ (.slice none 0 0) (chain_blk (m0 := mZ) (lv0 := .slice none 0 0) K33.out mZ (.slice none 0 0)))) rfl ?_
      refine ⟨.slice none 0 0, by rw [HS.out]; rfl, by rw [HS.out]; exact ownT_none _ _, chain_below (m := mZ) (lv := .slice none 0 0) G3.out (by omega)⟩
end Go.Proofs.YtbjoohafgkodcaaGreat
