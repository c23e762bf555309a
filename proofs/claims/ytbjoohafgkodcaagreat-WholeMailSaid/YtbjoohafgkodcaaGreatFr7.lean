/- rescriptref14.Few, Join; the law ResyncJunk returns true: its walk. ; rescriptlaw14.live: it holds. ; rescriptref14.Same: rows of frames that were found, compared. ; resync.All, Ended, Passed, Whole and rescriptref14.Whole, Same. ; resync.walk, All, Ended, Passed. ; resync.each: the iterator over what stands at the places of a stream. ; Rows of frames that were found, and rescriptref14.Walk, Whole. -/
import Derived.Test.YtbjoohafgkodcaaGreatFrS
import Derived.Test.YtbjoohafgkodcaaGreatItw
namespace Go.Proofs.YtbjoohafgkodcaaGreat
open Go Go.RowKit Go.Shelf

/-- a frame that was found, and its payload's slice value -/
abbrev FV := Fnd × Value
def fdv (p : FV) : List Value := [.int .i64 (p.1.1 : Nat), .int .u8 (p.1.2.1.toNat : Int), p.2]
/-- a row of the call's own of frames that were found -/
def FoundsV (W : World) (base : Nat) (v : Value) (ps : List FV) : Prop := W.ownsRow base 61 3 v ps.length (ps.flatMap fdv) ∧ ∀ p ∈ ps, PayV W base p.2 p.1.2.2
theorem FoundsV.nil (W : World) (base : Nat) : FoundsV W base (.slice none 0 0) [] := ⟨World.ownsRow_nil _ _ _ _, fun p h => by cases h⟩
theorem FoundsV.grew {W W' : World} {base : Nat} {v : Value} {ps : List FV} (h : FoundsV W base v ps) (g : Grew W W') : FoundsV W' base v ps := ⟨own_grew h.1 g, fun p hp => (h.2 p hp).grew g⟩
theorem FoundsV.mono {W : World} {base base' : Nat} {v : Value} {ps : List FV} (h : FoundsV W base v ps) (hb : base' ≤ base) : FoundsV W base' v ps := ⟨own_mono h.1 hb, fun p hp => (h.2 p hp).mono hb⟩
/-- the frames alone -/
def FOs (W : World) (base : Nat) (v : Value) (fs : List Fnd) : Prop := ∃ ps : List FV, ps.map (·.1) = fs ∧ FoundsV W base v ps
theorem FOs.grew {W W' : World} {base : Nat} {v : Value} {fs : List Fnd} (h : FOs W base v fs) (g : Grew W W') : FOs W' base v fs := by obtain ⟨ps, e, h⟩ := h; exact ⟨ps, e, h.grew g⟩
theorem FOs.mono {W : World} {base base' : Nat} {v : Value} {fs : List Fnd} (h : FOs W base v fs) (hb : base' ≤ base) : FOs W base' v fs := by obtain ⟨ps, e, h⟩ := h; exact ⟨ps, e, h.mono hb⟩
theorem info_found : (Tryz.prog.info? 61).map (fun i => (i.zero, i.size, i.bytes)) = some (some (.agg #[.int .i64 0, .int .u8 0, .slice none 0 0]), 3, 40) := by kernel_rfl
theorem fdv_one (p : FV) {W : World} {base : Nat} {l : List UInt8} (hp : PayV W base p.2 l) : ∀ u ∈ fdv p, u.oneCell' = true := by
  obtain ⟨a, n, c, e, _⟩ := hp.shape
  intro u hu
  simp only [fdv, List.mem_cons, List.not_mem_nil, or_false] at hu
  rcases hu with rfl | rfl | rfl
  · rfl
  · rfl
  · rw [e]; rfl
theorem FoundsV.push {W w' : World} {base : Nat} {v v' : Value} {ps : List FV} {p : FV} (h : FoundsV W base v ps) (hp : PayV W base p.2 p.1.2.2)
    (h1 : w'.ownsRow base 61 3 v' (ps.length + 1) (ps.flatMap fdv ++ fdv p)) (h2 : W.grownBy w' v.ownBlock) : FoundsV w' base v' (ps ++ [p]) := by
  refine ⟨by rw [List.length_append, List.flatMap_append]; simpa using h1, fun q hq => ?_⟩
  rcases List.mem_append.1 hq with hq | hq
  · exact (h.2 q hq).below h2 (row_ne h.1 (by decide) (h.2 q hq))
  · obtain rfl := List.mem_singleton.1 hq
    exact hp.below h2 (row_ne h.1 (by decide) hp)
theorem wpList_pushF {W : World} {ops : Array Oper} {rest : List Oper} {o : Oper} {a : Act} {Q : Exit → Act → World → Prop} (hgd : o.guard = none) (s x : Operand)
    (ho : o.op = .call { callee := .builtin .append, args := #[s, x], argTypes := #[58, 58] })
    (base : Nat) (v : Value) (ps : List FV) (hs : a.eval s = v) (hown : FoundsV W base v ps) (xv : Value) (hx : a.eval x = xv) (p : FV) (hsl : Sl W xv 1 3 (fdv p)) (hp : PayV W base p.2 p.1.2.2)
    (hlen : ps.length + 1 ≤ 1000000000) (hbase : base ≤ W.heap.size)
    (h : ∀ v' w', FoundsV w' base v' (ps ++ [p]) → Below base W w' → W.grownBy w' v.ownBlock → wpList Tryz.prog ops Q rest (a.put o.dst v') w') : wpList Tryz.prog ops Q (o :: rest) a W := by
  obtain ⟨i0, hi, hz0, hz1, hz2⟩ := info_parts info_found
  exact wpList_app hgd s x 58 ho base 61 i0 (.agg #[.int .i64 0, .int .u8 0, .slice none 0 0]) 3 40 Tryz.underlying58 hi hz0 hz1 hz2 rfl (by decide) v ps.length _ hs hown.1 xv 1 (fdv p) hx hsl (fdv_one p hp) (by unfold maxLen; omega) (by omega) hbase
    fun v' w' h1 h2 => h v' w' (hown.push hp h1 h2) (grownBy_below h2 hown.1 hbase) h2
theorem wpListIn_pushF {F : Fence} {n : Nat} {W : World} {ops : Array Oper} {rest : List Oper} {o : Oper} {a : Act} {Q : Exit → Act → World → Prop} (hgd : o.guard = none) (s x : Operand)
    (ho : o.op = .call { callee := .builtin .append, args := #[s, x], argTypes := #[58, 58] })
    (base : Nat) (v : Value) (ps : List FV) (hs : a.eval s = v) (hown : FoundsV W base v ps) (xv : Value) (hx : a.eval x = xv) (p : FV) (hsl : Sl W xv 1 3 (fdv p)) (hp : PayV W base p.2 p.1.2.2)
    (hlen : ps.length + 1 ≤ 1000000000) (hbase : base ≤ W.heap.size)
    (h : ∀ v' w', FoundsV w' base v' (ps ++ [p]) → Below base W w' → W.grownBy w' v.ownBlock → wpListIn F n Tryz.prog ops Q rest (a.put o.dst v') w') : wpListIn F n Tryz.prog ops Q (o :: rest) a W := by
  obtain ⟨i0, hi, hz0, hz1, hz2⟩ := info_parts info_found
  exact wpListIn_app hgd s x 58 ho base 61 i0 (.agg #[.int .i64 0, .int .u8 0, .slice none 0 0]) 3 40 Tryz.underlying58 hi hz0 hz1 hz2 rfl (by decide) v ps.length _ hs hown.1 xv 1 (fdv p) hx hsl (fdv_one p hp) (by unfold maxLen; omega) (by omega) hbase
    fun v' w' h1 h2 => h v' w' (hown.push hp h1 h2) (grownBy_below h2 hown.1 hbase) h2
theorem fread_ok {l : List UInt8} (h : ferr l = 0) : fread l = (fof l, flen l + 9, 0) := by unfold fread; rw [if_pos h]
theorem fread_err (l : List UInt8) : (fread l).2.2 = ferr l := by
  unfold fread; split
  · rename_i h; exact h.symm
  · rfl

end Go.Proofs.YtbjoohafgkodcaaGreat
namespace Go.Proofs.YtbjoohafgkodcaaGreat
open Go Go.RowKit Go.Shelf
attribute [local go_sem] Oper.semAt_some

/-- what is yielded: a place, and the payload's slice value -/
abbrev Mk := Nat × Value
/-- what is read at a place -/
def rdAt (l : List UInt8) (k : Nat) : Frm × Nat × Nat := fread (l.drop k)
def encMk (l : List UInt8) (x : Mk) : Array Value := #[.agg #[.int .i64 (x.1 : Nat), .int .i64 ((rdAt l x.1).2.1 : Nat), .int .u8 ((rdAt l x.1).1.1.toNat : Int), x.2, .int .i64 ((rdAt l x.1).2.2 : Nat)]]
/-- the place behind those -/
def nextPos (l : List UInt8) (pre : List Mk) : Nat := (pre.getLast?.map fun x => x.1 + max (rdAt l x.1).2.1 1).getD 0
theorem nextPos_nil (l : List UInt8) : nextPos l [] = 0 := rfl
theorem nextPos_snoc (l : List UInt8) (pre : List Mk) (x : Mk) : nextPos l (pre ++ [x]) = x.1 + max (rdAt l x.1).2.1 1 := by simp [nextPos]
def OkMk (l : List UInt8) (n₀ : Nat) (pre : List Mk) (x : Mk) (W : World) : Prop := x.1 < l.length ∧ x.1 = nextPos l pre ∧ PayV W n₀ x.2 (rdAt l x.1).1.2

theorem reach_any (a : Option Addr) (n c : Nat) (w : World) : Calls Tryz.prog 89 #[.slice a n c] w fun e w' => e = .returned (.func (.func 111) #[] #[.pointer (some ⟨w.heap.size, 0, none⟩)]) ∧ w' = w.alloc (.cells #[.slice a n c] 22) := by
  go_enter Tryz.func89, Tryz.ntmps89
  go_wp2
  go_ret
  exact ⟨rfl, rfl⟩

set_option maxRecDepth 100000 in
set_option maxHeartbeats 2000000 in
theorem resync_iter (l : List UInt8) (v : Value) (Bn n₀ : Nat) (w : World) (hn : n₀ ≤ w.heap.size) (hc : Blk w Bn 22 #[v]) (hs : ∀ w', Below n₀ w w' → Bs w' v l) (hlen : l.length ≤ 1000000000) :
    IterW Tryz.prog 111 #[.pointer (some ⟨Bn, 0, none⟩)] (encMk l) Grew (fun A B => Below n₀ A B ∧ KeepB Bn 22 A B) (OkMk l n₀) (fun xs => l.length ≤ nextPos l xs) (fun _ => True) w := by
  intro lp J Jx W hW hJ hJx hY h0
  have hcW := hc.grew hW
  have hb0 : Bs W v l := (hs w (Below.refl _ _)).grew hW
  obtain ⟨a, cap, rfl, h1, h2, -, h4⟩ := hb0.open
  unfold maxLen at h2
  refine callsIn_of_wp Tryz.func111 rfl trivial ?_ rfl
  simp only [Tryz.ntmps111, List.size_toArray, List.length_cons, List.length_nil, Nat.reduceAdd, Nat.reduceSub, Array.replicate_succ, Array.replicate_zero, List.push_toArray, List.append_toArray, List.nil_append, List.cons_append]
  have H4 := Lib.hid h4
  clear h4 hb0
  gi_wp2
  gi_loopw [3] (fun i wr => ∃ (k : Nat) (pre : List Mk), i = .int .i64 k ∧ k = nextPos l pre ∧ k ≤ l.length ∧ J pre wr ∧ Below n₀ w wr ∧ Blk wr Bn 22 #[.slice a l.length cap]) (fun i _ => l.length - (intOf i).toNat)
  case atStart => exact ⟨0, [], rfl, rfl, Nat.zero_le _, h0, hW.mono hn, hcW⟩
  case round =>
    obtain ⟨k, pre, rfl, hkn, hkl, hJ1, hB, hbx⟩ := hrel
    have c1 := hbx.cell 0
    simp only [List.getElem?_toArray, List.getElem?_cons_zero] at c1
    by_cases hlt : k < l.length
    · obtain ⟨b, o, rfl, -⟩ := H4.out (by omega)
      have hz : ¬ cap = k := by omega
      have hbr := hs wr hB
      have hbd := bs_drop hbr k (by omega)
      obtain ⟨X, hX⟩ : ∃ X, X = rdAt l k := ⟨_, rfl⟩
      have hX2 : X.2.1 ≤ l.length - k := by
        rw [hX]; unfold rdAt fread
        split
        · rename_i h; have := (ferr_zero h).1; simp at this; simp; omega
        · simp
      have kr := fread_any (l.drop k) _ _ hbd (by simp; omega)
      rw [← rdAt, ← hX] at kr
      have HX := Lib.hid hX
      have HXL := Lib.hid hX2
      have KR := Lib.hid kr
      have HKN := Lib.hid hkn
      clear kr hbd hbr hX hX2 hkn
      gi_wp2_with fail
      refine (callsIn_wide.2 KR.out).mono ?_
      rintro e w1 ⟨v1, rfl, hp1, g1⟩
      obtain ⟨a1, n1, c1, rfl, hn1⟩ := hp1.shape
      have gA := grew_alloc w1 (.cells #[.int .u8 (X.1.1.toNat : Int), .slice a1 n1 c1] 42)
      have g2 := Grew.trans g1 gA
      have hJ2 := hJ _ _ _ hJ1 g2
      have hn0 : n₀ ≤ wr.heap.size := Nat.le_trans hn hB.size
      have hok : OkMk l n₀ pre (k, .slice a1 n1 c1) (w1.alloc (.cells #[.int .u8 (X.1.1.toNat : Int), .slice a1 n1 c1] 42)) := ⟨hlt, HKN.out, by show PayV _ _ _ (rdAt l k).1.2; rw [← HX.out]; exact (hp1.grew gA).mono hn0⟩
      obtain ⟨fn, tmps, assign, body, hy, hR⟩ := hY _ _ _ hJ2 hok
      simp only [encMk, ← HX.out] at hy
      have hbx2 := hbx.grew g2
      have hB2 : Below n₀ w _ := Below.trans hB (g2.mono hn0)
      have hm : (if (X.2.1 : Int) ≤ 1 then (1 : Int) else (X.2.1 : Int)) = ((max X.2.1 1 : Nat) : Int) := by
        split <;> omega
      have hm2 : (k : Int) + ((max X.2.1 1 : Nat) : Int) = ((k + max X.2.1 1 : Nat) : Int) := by omega
      have hk2 : k + max X.2.1 1 ≤ l.length := by have := HXL.out; omega
      clear hJ1 hbx hB hY hok hJ hJx hp1
      gi_wp2
      refine hR.mono ?_
      rintro e W3 (⟨rfl, hJ3, hk3, hk4⟩ | ⟨rfl, hJx3⟩)
      · have hb3 := hk4 _ hbx2
        clear hy hR hbx2 hJ2
        gi_wp2
        have e1 : (k : Int) + max (X.2.1 : Int) 1 = ((k + max X.2.1 1 : Nat) : Int) := by omega
        rw [e1]
        refine ⟨⟨k + max X.2.1 1, _, rfl, by rw [nextPos_snoc]; simp only [← HX.out], hk2, hJ3, Below.trans hB2 hk3, hb3⟩, ?_⟩
        simp only [intOf, Int.toNat_natCast]; omega
      · clear hy hR hbx2 hJ2
        gi_wp2
        refine bodyPost_ret (results_none rfl _ _ _) rfl ?_
        exact ⟨⟨_, rfl⟩, .inr ⟨_, trivial, hJx3⟩⟩
    · obtain rfl : k = l.length := by omega
      have HKN := Lib.hid hkn
      clear hkn
      gi_wp2
      go_end0
      exact ⟨⟨_, rfl⟩, .inl ⟨pre, by rw [← HKN.out]; exact Nat.le_refl _, hJ1⟩⟩

end Go.Proofs.YtbjoohafgkodcaaGreat
namespace Go.Proofs.YtbjoohafgkodcaaGreat
open Go Go.RowKit Go.Shelf
attribute [local go_sem] Oper.semAt_some

theorem FoundsV.ck {n base : Nat} {W W' : World} {v : Value} {ps : List FV} (h : FoundsV W base v ps) (hc : CK n W W') : FoundsV W' base v ps := ⟨hc.own h.1, fun p hp => (h.2 p hp).ck hc⟩
theorem FoundsV.set {W : World} {base : Nat} {v : Value} {ps : List FV} (h : FoundsV W base v ps) {b : Nat} {t : TypeId} {cs : Array Value} (hb : Blk W b t cs) (ht : t ≠ 5) (ht2 : t ≠ 61) (j : Nat) (u : Value) : FoundsV (W.setCell ⟨b, j, none⟩ u) base v ps :=
  ⟨own_set h.1 _ _ (fun e => blk_ne_row hb h.1 ht2 e.symm), fun p hp => (h.2 p hp).set hb ht j u⟩

/-- what the rounds of walk leave: base block w.heap.size: ended; + 1: the row; + 2: passed; + 3: from -/
def WalkI (ended : Bool) (l : List UInt8) (w : World) (pre : List Mk) (W : World) : Prop := ∃ (v : Value) (ps : List FV) (P : Nat),
  Blk W w.heap.size 4 #[.bool ended] ∧ Blk W (w.heap.size + 1) 58 #[v] ∧ FoundsV W w.heap.size v ps ∧ Blk W (w.heap.size + 1 + 1) 3 #[.int .i64 P] ∧ Blk W (w.heap.size + 1 + 1 + 1) 3 #[.int .i64 l.length] ∧ Grew w W ∧
  nextPos l pre ≤ l.length ∧ P ≤ nextPos l pre ∧ ps.length ≤ nextPos l pre ∧
  RowKit.Hid (walkL ended l 0 = (ps.map (·.1) ++ (walkL ended (l.drop (nextPos l pre)) (nextPos l pre)).1, P + (walkL ended (l.drop (nextPos l pre)) (nextPos l pre)).2.1, (walkL ended (l.drop (nextPos l pre)) (nextPos l pre)).2.2))
def WalkX (ended : Bool) (l : List UInt8) (w : World) (c0 : Code) (c : Code) (_pre : List Mk) (W : World) : Prop := c = c0 ∧ ∃ (v : Value) (ps : List FV) (P F : Nat),
  Blk W (w.heap.size + 1) 58 #[v] ∧ FoundsV W w.heap.size v ps ∧ Blk W (w.heap.size + 1 + 1) 3 #[.int .i64 P] ∧ Blk W (w.heap.size + 1 + 1 + 1) 3 #[.int .i64 F] ∧ Grew w W ∧
  RowKit.Hid (walkL ended l 0 = (ps.map (·.1), P, F))
theorem WalkI.grew {ended : Bool} {l : List UInt8} {w : World} {pre : List Mk} {A B : World} (h : WalkI ended l w pre A) (e : Grew A B) : WalkI ended l w pre B := by
  obtain ⟨v, ps, P, h1, h2, h3, h4, h5, h6, h7⟩ := h
  exact ⟨v, ps, P, h1.grew e, h2.grew e, h3.grew e, h4.grew e, h5.grew e, h6.trans e, h7⟩
theorem WalkI.ck {ended : Bool} {l : List UInt8} {w : World} {pre : List Mk} {n : Nat} {A B : World} (h : WalkI ended l w pre A) (e : CK n A B) (hn : w.heap.size ≤ n) : WalkI ended l w pre B := by
  obtain ⟨v, ps, P, h1, h2, h3, h4, h5, h6, h7⟩ := h
  exact ⟨v, ps, P, e.blk h1, e.blk h2, h3.ck e, e.blk h4, e.blk h5, e.below h6 hn, h7⟩
theorem WalkX.grew {ended : Bool} {l : List UInt8} {w : World} {c0 c : Code} {pre : List Mk} {A B : World} (h : WalkX ended l w c0 c pre A) (e : Grew A B) : WalkX ended l w c0 c pre B := by
  obtain ⟨hc, v, ps, P, F, h2, h3, h4, h5, h6, h7⟩ := h
  exact ⟨hc, v, ps, P, F, h2.grew e, h3.grew e, h4.grew e, h5.grew e, h6.trans e, h7⟩
theorem WalkX.ck {ended : Bool} {l : List UInt8} {w : World} {c0 c : Code} {pre : List Mk} {n : Nat} {A B : World} (h : WalkX ended l w c0 c pre A) (e : CK n A B) (hn : w.heap.size ≤ n) : WalkX ended l w c0 c pre B := by
  obtain ⟨hc, v, ps, P, F, h2, h3, h4, h5, h6, h7⟩ := h
  exact ⟨hc, v, ps, P, F, e.blk h2, h3.ck e, e.blk h4, e.blk h5, e.below h6 hn, h7⟩

set_option maxRecDepth 100000 in
set_option maxHeartbeats 4000000 in
theorem walk_any (l : List UInt8) (ended : Bool) (v : Value) (w : World) (hb : Bs w v l) (hlen : l.length ≤ 1000000000) :
    Calls Tryz.prog 69 #[v, .bool ended] w fun e w' => ∃ v', e = .returned (.tuple #[v', .int .i64 (walkL ended l 0).2.1, .int .i64 (walkL ended l 0).2.2]) ∧ FOs w' w.heap.size v' (walkL ended l 0).1 ∧ Grew w w' := by
  obtain ⟨a, c, rfl⟩ := bs_len hb
  refine (callsIn_wide (n := 0)).1 (callsIn_of_wp_marks Tryz.func69 rfl trivial ?_ rfl)
  simp only [Tryz.ntmps69, List.size_toArray, List.length_cons, List.length_nil, Nat.reduceAdd, Nat.reduceSub, Array.replicate_succ, Array.replicate_zero, List.push_toArray, List.append_toArray, List.nil_append, List.cons_append]
  gi_wp2
  refine wpIn_scope_wide ?_
  gi_wp2
  refine wpIn_label ?_
  gi_wp2_with (gi_at_call 89; refine (callsIn_wide.2 (reach_any _ _ _ _)).mono ?_; rintro e w1 ⟨rfl, rfl⟩)
  obtain ⟨w0, hw0⟩ : ∃ w0, w0 = ((((w.alloc (.cells #[.bool ended] 4)).alloc (.cells #[.slice none 0 0] 58)).alloc (.cells #[.int .i64 0] 3)).alloc (.cells #[.int .i64 l.length] 3)) := ⟨_, rfl⟩
  have gw0 : Grew w w0 := by rw [hw0]; exact ((((Below.refl _ _).alloc (Nat.le_refl _) _).alloc (by simp) _).alloc (by simp; omega) _).alloc (by simp; omega) _
  have hz0 : w0.heap.size = w.heap.size + 1 + 1 + 1 + 1 := by rw [hw0]; simp
  have k0 : Blk w0 w.heap.size 4 #[.bool ended] := by rw [hw0]; exact (((Blk.new _ _ _).alloc _).alloc _).alloc _
  have k1 : Blk w0 (w.heap.size + 1) 58 #[.slice none 0 0] := by rw [hw0]; exact ((Blk.at (by simp)).alloc _).alloc _
  have k2 : Blk w0 (w.heap.size + 1 + 1) 3 #[.int .i64 0] := by rw [hw0]; exact (Blk.at (by simp)).alloc _
  have k3 : Blk w0 (w.heap.size + 1 + 1 + 1) 3 #[.int .i64 l.length] := by rw [hw0]; exact Blk.at (by simp)
  try rw [← hw0]
  try rw [← hz0]
  have gb := grew_alloc w0 (.cells #[.slice a l.length c] 22)
  refine wpIn_iterW (gf := 111) (lb := #[.pointer (some ⟨w0.heap.size, 0, none⟩)]) rfl (enters_of Tryz.func111 (by kernel_rfl) rfl)
    (resync_iter l (.slice a l.length c) w0.heap.size w.heap.size _ (by have := gw0.size; simp; omega) (Blk.new _ _ _) (fun w' h => hb.grew (Below.trans (gw0.trans gb) h)) hlen)
    (fun A B e => keepsOthers_grew e) (fun A B C h1 h2 => ⟨h2.below h1.1 (by have := gw0.size; simp; omega), h1.2.ck h2⟩) (fun _ => rfl)
    (WalkI ended l w) (WalkX ended l w (.exit 0)) (fun pre A B h e => h.grew e) (fun pre A B h hc => h.ck hc (by have := gw0.size; simp; omega)) (fun _ _ _ _ h e => h.grew e) (fun _ _ _ _ h hc => h.ck hc (by have := gw0.size; simp; omega))
    ⟨_, [], 0, k0.grew gb, k1.grew gb, FoundsV.nil _ _, k2.grew gb, k3.grew gb, gw0.trans gb, Nat.zero_le _, Nat.le_refl _, Nat.le_refl _, by show _ = _; simp [nextPos_nil]⟩ ?round ?done ?stop
  case stop =>
    rintro cd pre W - ⟨rfl, v, ps, P, F, h1, h2, h3, h4, h5, h6⟩ hD
    obtain ⟨a9, n9, c9, rfl, hn9⟩ : ∃ a n c, v = .slice a n c ∧ True := by obtain ⟨a, c, e, _⟩ := (Sl.of_own h2.1).open; exact ⟨a, _, c, e, trivial⟩
    have c1 := h1.cell 0
    have c2 := h3.cell 0
    have c3 := h4.cell 0
    simp only [List.getElem?_toArray, List.getElem?_cons_zero] at c1 c2 c3
    clear h1 h3 h4
    gi_wp2
    refine wpIn_region_quiet open_wide ?_ (by kernel_rfl) (by kernel_rfl) (by kernel_rfl) ?_
    · rintro ⟨_, _, h⟩
      obtain ⟨_, h, _⟩ := h
      cases h
    · repeat (quiet_step (fail))
      refine wpQuiet_nil ?_
      rintro _ ⟨nq, rfl⟩
      gi_wp2
      rw [Exit.noGoto_ret]
      have hD2 : (W.drewN nq).heap[w.heap.size + 1 + 1 + 1 + 1 + 1]? = some (.deferred (some [])) := by simpa [hz0] using hD
      refine ⟨by simp, .inl ⟨_, _, rfl, run_takeDeferred hD2, ?_⟩⟩
      have hck2 : CK w.heap.size (W.drewN nq) _ := CK.putObj w.heap.size (W.drewN nq) _ _ (.deferred none) hD2 rfl (by omega)
      have gd : Grew W (W.drewN nq) := Drew.grew ⟨nq, rfl⟩
      refine ⟨_, results_tmp3 rfl _ _ _, ?_⟩
      rw [h6.out]
      exact ⟨_, rfl, ⟨ps, by first | rfl | simp, (h2.grew gd).ck hck2⟩, Below.trans (h5.trans gd) (hck2.toBelow (Nat.le_refl _))⟩
  case done =>
    rintro xs W hS ⟨v, ps, P, h0, h1, h2, h3, h4, h5, h7, h8, h9, h6⟩ hD
    have e9 : nextPos l xs = l.length := by omega
    rw [e9, List.drop_of_length_le (Nat.le_refl _), walkL_nil, List.append_nil] at h6
    clear h0 h7 h8 h9 hS
    obtain ⟨a9, n9, c9, rfl, hn9⟩ : ∃ a n c, v = .slice a n c ∧ True := by obtain ⟨a, c, e, _⟩ := (Sl.of_own h2.1).open; exact ⟨a, _, c, e, trivial⟩
    have c1 := h1.cell 0
    have c2 := h3.cell 0
    have c3 := h4.cell 0
    simp only [List.getElem?_toArray, List.getElem?_cons_zero] at c1 c2 c3
    clear h1 h3 h4
    gi_wp2
    refine wpIn_region_quiet open_wide ?_ (by kernel_rfl) (by kernel_rfl) (by kernel_rfl) ?_
    · rintro ⟨_, _, h⟩
      obtain ⟨_, h, _⟩ := h
      cases h
    · repeat (quiet_step (fail))
      refine wpQuiet_nil ?_
      rintro _ ⟨nq, rfl⟩
      gi_wp2
      rw [Exit.noGoto_ret]
      have hD2 : (W.drewN nq).heap[w.heap.size + 1 + 1 + 1 + 1 + 1]? = some (.deferred (some [])) := by simpa [hz0] using hD
      refine ⟨by simp, .inl ⟨_, _, rfl, run_takeDeferred hD2, ?_⟩⟩
      have hck2 : CK w.heap.size (W.drewN nq) _ := CK.putObj w.heap.size (W.drewN nq) _ _ (.deferred none) hD2 rfl (by omega)
      have gd : Grew W (W.drewN nq) := Drew.grew ⟨nq, rfl⟩
      refine ⟨_, results_tmp3 rfl _ _ _, ?_⟩
      rw [h6.out]
      exact ⟨_, rfl, ⟨ps, by first | rfl | simp, (h2.grew gd).ck hck2⟩, Below.trans (h5.trans gd) (hck2.toBelow (Nat.le_refl _))⟩
  case round =>
    rintro lp pre ⟨k, pv⟩ W hi ⟨hk1, hk2, hpv⟩
    obtain ⟨a1, n1, cp, rfl, hn1⟩ := hpv.shape
    simp only at hk1 hk2 hpv
    obtain ⟨X, hX⟩ : ∃ X, X = rdAt l k := ⟨_, rfl⟩
    rw [← hX] at hpv
    have HX := Lib.hid hX
    have HK2 := Lib.hid hk2
    have hwz : w.heap.size ≤ W.heap.size := by obtain ⟨_, _, _, _, _, _, _, _, h, _⟩ := hi; exact h.size
    have hga := grew_alloc W (.cells #[.int .i64 k, .int .i64 X.2.1, .int .u8 (X.1.1.toNat : Int), .slice a1 n1 cp, .int .i64 X.2.2] 145)
    simp only [encMk, ← hX]
    clear hX hk2
    gi_wp2
    refine ⟨keepsOthers_grew hga, hi.grew hga, ?_⟩
    rintro W2 hck hsz ⟨v, ps, P, h0, h1, h2, h3, h4, h5, h6, h7, h8, h9⟩
    have hs := hck.blk (Blk.new W 145 #[.int .i64 k, .int .i64 X.2.1, .int .u8 (X.1.1.toNat : Int), .slice a1 n1 cp, .int .i64 X.2.2])
    have hp2 := (hpv.grew hga).ck hck
    have hkeep : KeepB w0.heap.size 22 W W2 := fun cs hc => hck.blk (hc.grew hga)
    have hbel : Below w.heap.size W W2 := hck.below (hga.mono hwz) (by have := gw0.size; simp; omega)
    clear hi hga hck hsz hpv
    have hkl : k < l.length := hk1
    have hX2 : X.2.1 ≤ l.length - k := by
      rw [HX.out]; unfold rdAt fread
      split
      · rename_i h; have := (ferr_zero h).1; simp at this; simp; omega
      · simp
    have hn : nextPos l (pre ++ [(k, .slice a1 n1 cp)]) = k + max X.2.1 1 := by rw [nextPos_snoc]; simp only [← HX.out]
    have HN := Lib.hid hn
    rw [← HK2.out] at h6 h7 h8 h9
    have c0 := h0.cell 0
    have c1 := h1.cell 0
    have c2 := h3.cell 0
    have c3 := h4.cell 0
    have s0 := hs.cell 0
    have s1 := hs.cell 1
    have s2 := hs.cell 2
    have s3 := hs.cell 3
    have s4 := hs.cell 4
    simp only [List.getElem?_toArray, List.getElem?_cons_zero, List.getElem?_cons_succ] at c0 c1 c2 c3 s0 s1 s2 s3 s4
    have f1 := h1.frozen 0
    have f2 := h3.frozen 0
    have f3 := h4.frozen 0
    obtain ⟨D, hD⟩ : ∃ D, D = l.drop k := ⟨_, rfl⟩
    have hDne : D ≠ [] := by intro e; have : D.length = l.length - k := by rw [hD, List.length_drop]
                             rw [e] at this; simp at this; omega
    have hXD : X = fread D := by rw [HX.out, rdAt, hD]
    rw [← hD] at h9
    clear hn hk1
    by_cases he : ferr D = 0
    · have hw := walkL_ok (ended := ended) k he
      rw [fread_ok he] at hXD
      have hX1 : X.2.2 = 0 := by rw [hXD]
      have hX0 : X.2.1 = flen D + 9 := by rw [hXD]
      have hXf : X.1 = fof D := by rw [hXD]
      rw [hw, ← hX0, ← hXf, hD, List.drop_drop] at h9
      rw [hX1] at s4
      replace s4 : W2.cell? ⟨W.heap.size, 4, none⟩ = some (.int .i64 0) := s4
      obtain ⟨a9, c9, e9, -⟩ := (Sl.of_own h2.1).open
      have HO := Lib.hid h2
      have HP := Lib.hid hp2
      have HX0 := Lib.hid hX0
      have H9 := Lib.hid h9
      clear h9
      clear he hw hXD hX1 hX0 hXf hDne hD h2 hp2
      subst e9
      have hga := grew_alloc W2 (.cells #[.int .i64 k, .int .u8 (X.1.1.toNat : Int), .slice a1 n1 cp] 61)
      have hsl : Sl (W2.alloc (.cells #[.int .i64 k, .int .u8 (X.1.1.toNat : Int), .slice a1 n1 cp] 61)) (.slice (some ⟨W2.heap.size, 0, none⟩) 1 1) 1 3 (fdv ((k, X.1), .slice a1 n1 cp)) :=
        Sl.lit W2 61 (0, 0) #[.int .i64 k, .int .u8 (X.1.1.toNat : Int), .slice a1 n1 cp] 1 3 rfl (by unfold maxLen; omega)
      have HSL := Lib.hid hsl
      clear hsl
      gi_wp2_with (gi_at_builtin; refine wpListIn_pushF rfl _ _ rfl w.heap.size _ ps rfl (HO.out.grew hga) _ rfl ((k, X.1), .slice a1 n1 cp) HSL.out (HP.out.grew hga |>.mono (Nat.le_refl _)) (by omega) (by have := h5.size; simp; omega) ?_; intro v' w2 hown2 hB2 hgb; obtain ⟨a8, c8, rfl, -⟩ := (Sl.of_own hown2.1).open; have h1w := (h1.grew hga).kept hgb (blk_ne_row (h1.grew hga) (HO.out.grew hga).1 (by decide)); have c1w := h1w.cell 0; simp only [List.getElem?_toArray, List.getElem?_cons_zero] at c1w; have f1w := h1w.frozen 0)
      have kb : ∀ b t cs, Blk W2 b t cs → t ≠ 61 → b ≠ w.heap.size + 1 → Blk (w2.setCell ⟨w.heap.size + 1, 0, none⟩ (.slice a8 (ps.length + 1) c8)) b t cs := fun b t cs h ht hne =>
        ((h.grew hga).kept hgb (blk_ne_row (h.grew hga) (HO.out.grew hga).1 ht)).other ⟨w.heap.size + 1, 0, none⟩ _ hne
      have hl1 : (ps ++ [((k, X.1), (Value.slice a1 n1 cp))]).length = ps.length + 1 := by simp
      rw [hl1] at hown2
      have hmx : max X.2.1 1 = X.2.1 := by have := HX0.out; omega
      have gB : Below w.heap.size W2 (w2.setCell ⟨w.heap.size + 1, 0, none⟩ (.slice a8 (ps.length + 1) c8)) := grew_set (Below.trans (hga.mono h5.size) hB2) (by omega) _
      refine ⟨((keepsOthers_grew hga).trans (keepsOthers_app (HO.out.grew hga).1 hgb)).trans (KeepsOthers.setCell _ _ _), ⟨hbel.trans gB, fun cs hc => by have := hkeep cs (by rw [hz0]; exact hc); rw [hz0] at this; exact kb _ _ _ this (by decide) (by omega)⟩, ?_⟩
      refine ⟨_, ps ++ [((k, X.1), .slice a1 n1 cp)], P, kb _ _ _ h0 (by decide) (by omega), h1w.set 0 _, hown2.set h1w (by decide) (by decide) 0 _, kb _ _ _ h3 (by decide) (by omega), kb _ _ _ h4 (by decide) (by omega), Below.trans h5 gB, ?_, ?_, ?_, ?_⟩
      · rw [HN.out]; omega
      · rw [HN.out]; omega
      · rw [HN.out, List.length_append]; simp; omega
      · rw [HN.out, hmx]
        show _ = _
        rw [H9.out.out]; simp
    · have hXE : X = ((0, []), 0, ferr D) := by rw [hXD]; exact fread_fail rfl he
      obtain ⟨E, hE⟩ : ∃ E, E = ferr D := ⟨_, rfl⟩
      have hX1 : X.2.2 = E := by rw [hXE, hE]
      have hX0 : X.2.1 = 0 := by rw [hXE]
      have hmx : max X.2.1 1 = 1 := by rw [hX0]; rfl
      rw [hX1] at s4
      have hne : ((E : Int) == 0) = false := by simp; omega
      have HMX := Lib.hid hmx
      have HO := Lib.hid h2
      by_cases h4e : ferr D = 4 ∧ ended = false
      · obtain ⟨h4e, rfl⟩ := h4e
        have hw : walkL false D k = ([], 0, k) := walkL_short k h4e
        rw [hw, List.append_nil] at h9
        have H9 := Lib.hid h9
        have hE4 : E = 4 := by rw [hE, h4e]
        clear hX1 hX0 hmx hne he hw h9 hXD hXE hE hDne hD h2 hp2 h4e
        subst hE4
        replace s4 : W2.cell? ⟨W.heap.size, 4, none⟩ = some (.int .i64 4) := s4
        gi_wp2
        exact ⟨KeepsOthers.setCell _ _ _, rfl, v, ps, P, k, h1.other ⟨w.heap.size + 1 + 1 + 1, 0, none⟩ _ (by simp), HO.out.set h4 (by decide) (by decide) 0 _, h3.other ⟨w.heap.size + 1 + 1 + 1, 0, none⟩ _ (by simp), h4.set 0 _, grew_set h5 (by omega) _, H9.out⟩
      · have hw := walkL_pass (ended := ended) k hDne he (fun h => by cases ended with
          | true => rfl
          | false => exact absurd ⟨h, rfl⟩ h4e)
        rw [hw, hD, List.drop_drop] at h9
        have H9 := Lib.hid h9
        have hq : ((E : Int) == 4 && !ended) = false := by
          cases ended with
          | true => simp
          | false => simp; intro h; exact h4e ⟨by omega, rfl⟩
        clear hX1 hX0 hmx he hw h9 hXD hXE hE hDne hD h2 hp2 h4e
        cases h4q : ((E : Int) == 4) with
        | false =>
          clear hq
          gi_wp2
          exact ⟨KeepsOthers.setCell _ _ _, ⟨hbel.trans (grew_set (Below.refl _ _) (by omega) _), fun cs hc => by have := hkeep cs (by rw [hz0]; exact hc); rw [hz0] at this; exact this.other ⟨w.heap.size + 1 + 1, 0, none⟩ _ (by simp; omega)⟩,
            v, ps, P + 1, h0.other ⟨w.heap.size + 1 + 1, 0, none⟩ _ (by simp; omega), h1.other ⟨w.heap.size + 1 + 1, 0, none⟩ _ (by simp), HO.out.set h3 (by decide) (by decide) 0 _, h3.set 0 _, h4.other ⟨w.heap.size + 1 + 1, 0, none⟩ _ (by simp), grew_set h5 (by omega) _, by rw [HN.out, HMX.out]; omega, by rw [HN.out, HMX.out]; omega, by rw [HN.out, HMX.out]; omega, by
              rw [HN.out, HMX.out]
              show _ = _
              rw [H9.out.out]
              refine Prod.ext rfl (Prod.ext ?_ rfl)
              simp only; omega⟩
        | true =>
          obtain rfl : ended = true := by rw [h4q] at hq; simpa using hq
          clear hq
          gi_wp2
          exact ⟨KeepsOthers.setCell _ _ _, ⟨hbel.trans (grew_set (Below.refl _ _) (by omega) _), fun cs hc => by have := hkeep cs (by rw [hz0]; exact hc); rw [hz0] at this; exact this.other ⟨w.heap.size + 1 + 1, 0, none⟩ _ (by simp; omega)⟩,
            v, ps, P + 1, h0.other ⟨w.heap.size + 1 + 1, 0, none⟩ _ (by simp; omega), h1.other ⟨w.heap.size + 1 + 1, 0, none⟩ _ (by simp), HO.out.set h3 (by decide) (by decide) 0 _, h3.set 0 _, h4.other ⟨w.heap.size + 1 + 1, 0, none⟩ _ (by simp), grew_set h5 (by omega) _, by rw [HN.out, HMX.out]; omega, by rw [HN.out, HMX.out]; omega, by rw [HN.out, HMX.out]; omega, by
              rw [HN.out, HMX.out]
              show _ = _
              rw [H9.out.out]
              refine Prod.ext rfl (Prod.ext ?_ rfl)
              simp only; omega⟩
end Go.Proofs.YtbjoohafgkodcaaGreat
namespace Go.Proofs.YtbjoohafgkodcaaGreat
open Go Go.RowKit Go.Shelf

theorem all_any (l : List UInt8) (v : Value) (w : World) (hb : Bs w v l) (hlen : l.length ≤ 1000000000) :
    Calls Tryz.prog 46 #[v] w fun e w' => ∃ v', e = .returned (.tuple #[v', .int .i64 (walkL false l 0).2.2]) ∧ FOs w' w.heap.size v' (walkL false l 0).1 ∧ Grew w w' := by
  have k := walk_any l false v w hb hlen
  obtain ⟨a, n, c, rfl, hn⟩ := bs_shape hb
  generalize (walkL false l 0).1 = A at k ⊢
  generalize (walkL false l 0).2.1 = B at k
  generalize (walkL false l 0).2.2 = C at k ⊢
  have K := Lib.hid k
  clear k hb
  go_enter Tryz.func46, Tryz.ntmps46
  go_wp2_with fail
  refine K.out.mono ?_
  rintro e w1 ⟨v1, rfl, h1, g1⟩
  go_wp2
  go_ret2
  exact ⟨_, rfl, h1, g1⟩
/-- numbers as cells -/
def iv (l : List Nat) : List Value := l.map fun n => .int .i64 (n : Nat)
theorem iv_length (l : List Nat) : (iv l).length = l.length := by simp [iv]
theorem iv_get (l : List Nat) (j : Nat) (h : j < l.length) : (iv l)[j]? = some (.int .i64 (l[j] : Nat)) := by simp [iv, h]
abbrev OwnI (w : World) (base : Nat) (v : Value) (l : List Nat) : Prop := w.ownsRow base 3 1 v l.length (iv l)
theorem info_int : (Tryz.prog.info? 3).map (fun i => (i.zero, i.size, i.bytes)) = some (some (.int .i64 0), 1, 8) := by kernel_rfl
theorem wpList_pushI {W : World} {ops : Array Oper} {rest : List Oper} {o : Oper} {a : Act} {Q : Exit → Act → World → Prop} (hgd : o.guard = none) (s x : Operand)
    (ho : o.op = .call { callee := .builtin .append, args := #[s, x], argTypes := #[51, 51] })
    (base : Nat) (v : Value) (l : List Nat) (hs : a.eval s = v) (hown : OwnI W base v l) (xv : Value) (hx : a.eval x = xv) (m : Nat) (hsl : Sl W xv 1 1 [.int .i64 m])
    (hlen : l.length + 1 ≤ 1000000000000) (hbase : base ≤ W.heap.size)
    (h : ∀ v' w', OwnI w' base v' (l ++ [m]) → Below base W w' → W.grownBy w' v.ownBlock → wpList Tryz.prog ops Q rest (a.put o.dst v') w') : wpList Tryz.prog ops Q (o :: rest) a W := by
  obtain ⟨i0, hi, hz0, hz1, hz2⟩ := info_parts info_int
  exact wpList_app hgd s x 51 ho base 3 i0 (.int .i64 0) 1 8 Tryz.underlying51 hi hz0 hz1 hz2 rfl (by decide) v l.length (iv l) hs hown xv 1 [.int .i64 m] hx hsl (by intro u hu; simp at hu; subst hu; rfl) (by unfold maxLen; omega) (by omega) hbase
    fun v' w' h1 h2 => h v' w' (by rw [OwnI, List.length_append]; simpa [iv] using h1) (grownBy_below h2 hown hbase) h2

/-- the places below k at which frames stand -/
def wholeN (l : List UInt8) (k : Nat) : List Nat := (List.range k).filter fun i => ferr (l.drop i) == 0
theorem wholeN_yes (l : List UInt8) (k : Nat) (h : ferr (l.drop k) = 0) : wholeN l (k + 1) = wholeN l k ++ [k] := by simp [wholeN, List.range_succ, h]
theorem wholeN_no (l : List UInt8) (k : Nat) (h : ferr (l.drop k) ≠ 0) : wholeN l (k + 1) = wholeN l k := by simp [wholeN, List.range_succ, h]
theorem wholeN_le (l : List UInt8) (k : Nat) : (wholeN l k).length ≤ k := by
  have := List.length_filter_le (fun i => ferr (l.drop i) == 0) (List.range k); simpa [wholeN] using this
end Go.Proofs.YtbjoohafgkodcaaGreat
namespace Go.Proofs.YtbjoohafgkodcaaGreat
open Go Go.RowKit Go.Shelf

/-- a row that is read -/
def FR (W : World) (v : Value) (ps : List FV) : Prop := Sl W v ps.length 3 (ps.flatMap fdv) ∧ ∀ p ∈ ps, Bs W p.2 p.1.2.2
theorem FR.grew {W W' : World} {v : Value} {ps : List FV} (h : FR W v ps) (g : Grew W W') : FR W' v ps := ⟨h.1.grew g, fun p hp => (h.2 p hp).grew g⟩
theorem FoundsV.fr {W : World} {base : Nat} {v : Value} {ps : List FV} (h : FoundsV W base v ps) : FR W v ps := ⟨Sl.of_own h.1, fun p hp => (h.2 p hp).1⟩
def FRs (W : World) (v : Value) (fs : List Fnd) : Prop := ∃ ps : List FV, ps.map (·.1) = fs ∧ FR W v ps
theorem FOs.frs {W : World} {base : Nat} {v : Value} {fs : List Fnd} (h : FOs W base v fs) : FRs W v fs := by obtain ⟨ps, e, h⟩ := h; exact ⟨ps, e, h.fr⟩
theorem FRs.grew {W W' : World} {v : Value} {fs : List Fnd} (h : FRs W v fs) (g : Grew W W') : FRs W' v fs := by obtain ⟨ps, e, h⟩ := h; exact ⟨ps, e, h.grew g⟩
/-- v[:m] -/
theorem FRs.take {W : World} {a : Option Addr} {n c : Nat} {fs : List Fnd} (h : FRs W (.slice a n c) fs) (m : Nat) (hm : m ≤ n) : FRs W (.slice a m c) (fs.take m) := by
  obtain ⟨ps, rfl, h1, h2⟩ := h
  have hn : n = ps.length := by obtain ⟨_, _, _, e, _⟩ := h1; cases e; rfl
  subst hn
  refine ⟨ps.take m, by rw [List.map_take], ?_, fun p hp => h2 p (List.mem_of_mem_take hp)⟩
  have := Sl.take h1 m hm
  rw [List.length_take, Nat.min_eq_left hm]
  have e : (ps.flatMap fdv).take (m * 3) = (ps.take m).flatMap fdv := by
    have hl : ((ps.take m).flatMap fdv).length = m * 3 := by
      have : ∀ q : List FV, (q.flatMap fdv).length = q.length * 3 := by
        intro q; induction q with
        | nil => rfl
        | cons x q ih => rw [List.flatMap_cons, List.length_append, ih, List.length_cons]; simp [fdv]; omega
      rw [this, List.length_take, Nat.min_eq_left hm]
    have : ps.flatMap fdv = (ps.take m).flatMap fdv ++ (ps.drop m).flatMap fdv := by rw [← List.flatMap_append, List.take_append_drop]
    rw [this, ← hl, List.take_left]
  rw [e] at this; exact this
/-- the cells of element j, wherever the row lies -/
theorem fr_cells {W : World} {b off : Nat} {n c : Nat} {ps : List FV} (h : FR W (.slice (some ⟨b, off, none⟩) n c) ps) (j : Nat) (hj : j < ps.length) :
    W.cell? ⟨b, off + j * 3, none⟩ = some (.int .i64 (ps[j].1.1 : Nat)) ∧ W.cell? ⟨b, off + j * 3 + 1, none⟩ = some (.int .u8 (ps[j].1.2.1.toNat : Int)) ∧ W.cell? ⟨b, off + j * 3 + 2, none⟩ = some ps[j].2 ∧ Bs W ps[j].2 ps[j].1.2.2 := by
  obtain ⟨a, cap, e, -, -, -, h4⟩ := h.1.open
  cases e
  obtain ⟨b', o', e, hc⟩ := h4 (by omega)
  cases e
  have g := fun i hi => flat_at (f := fdv) (k := 3) (fun _ => rfl) ps j hj i hi
  have g0 := hc (j * 3) _ (g 0 (by omega))
  have g1 := hc (j * 3 + 1) _ (g 1 (by omega))
  have g2 := hc (j * 3 + 2) _ (g 2 (by omega))
  simp only [← Nat.add_assoc] at g0 g1 g2
  exact ⟨g0, g1, g2, h.2 _ (List.getElem_mem hj)⟩

end Go.Proofs.YtbjoohafgkodcaaGreat
namespace Go.Proofs.YtbjoohafgkodcaaGreat
open Go Go.RowKit Go.Shelf

theorem FRs.shape {w : World} {v : Value} {fs : List Fnd} (h : FRs w v fs) : ∃ a n c, v = .slice a n c ∧ n = fs.length ∧ n ≤ c ∧ c ≤ 9223372036854775807 := by
  obtain ⟨ps, rfl, h1, _⟩ := h
  obtain ⟨a, c, e, h2, h3, -, -⟩ := h1.open
  unfold maxLen at h3
  exact ⟨a, _, c, e, by simp, h2, by omega⟩
theorem FOs.shape {w : World} {base : Nat} {v : Value} {fs : List Fnd} (h : FOs w base v fs) : ∃ a n c, v = .slice a n c ∧ n = fs.length ∧ n ≤ c ∧ c ≤ 9223372036854775807 := h.frs.shape
/-- the cells of element j -/
theorem FRs.cells {w : World} {a : Option Addr} {n c : Nat} {fs : List Fnd} (h : FRs w (.slice a n c) fs) : 0 < fs.length → ∃ b off, a = some ⟨b, off, none⟩ ∧ ∀ j (hj : j < fs.length), w.cell? ⟨b, off + j * 3, none⟩ = some (.int .i64 (fs[j].1 : Nat)) ∧ w.cell? ⟨b, off + j * 3 + 1, none⟩ = some (.int .u8 (fs[j].2.1.toNat : Int)) ∧ ∃ u, w.cell? ⟨b, off + j * 3 + 2, none⟩ = some u ∧ Bs w u fs[j].2.2 := by
  obtain ⟨ps, rfl, h1⟩ := h
  intro hl
  rw [List.length_map] at hl
  obtain ⟨a', c', e, _, _, _, h4⟩ := h1.1.open
  cases e
  obtain ⟨b, o, rfl, _⟩ := h4 (by omega)
  refine ⟨b, o, rfl, fun j hj => ?_⟩
  rw [List.length_map] at hj
  obtain ⟨g0, g1, g2, g3⟩ := fr_cells h1 j hj
  simp only [List.getElem_map]
  exact ⟨g0, g1, _, g2, g3⟩
theorem OwnI.shape {w : World} {base : Nat} {v : Value} {l : List Nat} (h : OwnI w base v l) : ∃ a n c, v = .slice a n c ∧ n = l.length := by
  obtain ⟨a, c, e, _⟩ := (Sl.of_own h).open; exact ⟨a, _, c, e, rfl⟩

theorem OwnI.open {w : World} {base : Nat} {v : Value} {l : List Nat} (h : OwnI w base v l) : ∃ a n c, v = .slice a n c ∧ n = l.length ∧ n ≤ c ∧ c ≤ 9223372036854775807 ∧ (0 < n → ∃ b off, a = some ⟨b, off, none⟩ ∧ ∀ j (hj : j < l.length), w.cell? ⟨b, off + j, none⟩ = some (.int .i64 (l[j] : Nat))) := by
  obtain ⟨a, c, e, h1, h2, _, h4⟩ := (Sl.of_own h).open
  unfold maxLen at h2
  refine ⟨a, _, c, e, rfl, h1, by omega, fun hn => ?_⟩
  obtain ⟨b, o, ea, hc⟩ := h4 (by omega)
  exact ⟨b, o, ea, fun j hj => hc j _ (iv_get l j hj)⟩

def lvB : List UInt8 := [0, 197] ++ fput (7, [1])
theorem lvB_walk : walkL false lvB 0 = ([(2, (7, [1]))], 2, 12) := by decide +kernel
theorem lvB_len : lvB.length = 12 := by decide +kernel
theorem lvB_whole : wholeN lvB 12 = [2] := by decide +kernel
theorem lv_none : walkL false [197, 154, 1] 0 = ([], 0, 0) := by decide +kernel
theorem lv_end : walkL true [197, 154] 0 = ([], 2, 2) := by decide +kernel
theorem lv_c1 : ferr [197] = 4 := by decide +kernel
theorem lv_c0 : ferr [0] = 3 := by decide +kernel
theorem add1 (w : World) (o : Obj) : (w.alloc o).heap.size = w.heap.size + 1 := World.size_alloc _ _

end Go.Proofs.YtbjoohafgkodcaaGreat
namespace Go.Proofs.YtbjoohafgkodcaaGreat
open Go Go.RowKit Go.Shelf

/-- frames that are read: each with its payload's slice value -/
abbrev FA := Frm × Value
def fav (x : FA) : List Value := [.int .u8 (x.1.1.toNat : Int), x.2]
def FsR (W : World) (v : Value) (A : List FA) : Prop := Sl W v A.length 2 (A.flatMap fav) ∧ ∀ x ∈ A, Bs W x.2 x.1.2
theorem FsR.grew {W W' : World} {v : Value} {A : List FA} (h : FsR W v A) (g : Grew W W') : FsR W' v A := ⟨h.1.grew g, fun x hx => (h.2 x hx).grew g⟩
theorem FsR.open {W : World} {v : Value} {A : List FA} (h : FsR W v A) : ∃ a n c, v = .slice a n c ∧ n = A.length ∧ n ≤ c ∧ c ≤ 9223372036854775807 := by
  obtain ⟨a, c, e, h1, h2, -, -⟩ := h.1.open
  unfold maxLen at h2
  exact ⟨a, _, c, e, rfl, h1, by omega⟩
theorem FsR.cells {W : World} {a : Option Addr} {n c : Nat} {A : List FA} (h : FsR W (.slice a n c) A) : 0 < A.length → ∃ b off, a = some ⟨b, off, none⟩ ∧ ∀ j (hj : j < A.length), W.cell? ⟨b, off + j * 2, none⟩ = some (.int .u8 (A[j].1.1.toNat : Int)) ∧ W.cell? ⟨b, off + j * 2 + 1, none⟩ = some A[j].2 ∧ Bs W A[j].2 A[j].1.2 := by
  intro hl
  obtain ⟨a', c', e, _, _, _, h4⟩ := h.1.open
  cases e
  obtain ⟨b, o, rfl, hc⟩ := h4 (by omega)
  refine ⟨b, o, rfl, fun j hj => ?_⟩
  have g := fun i hi => flat_at (f := fav) (k := 2) (fun _ => rfl) A j hj i hi
  have g0 := hc (j * 2) _ (g 0 (by omega))
  have g1 := hc (j * 2 + 1) _ (g 1 (by omega))
  simp only [← Nat.add_assoc] at g0 g1
  exact ⟨g0, g1, h.2 _ (List.getElem_mem hj)⟩
def fewL (fs : List Frm) : Bool := decide (fs.length ≤ 12) && fs.all fun f => decide (f.2.length ≤ 300)

theorem fjoin_snoc (fs : List Frm) (f : Frm) : fjoin (fs ++ [f]) = fjoin fs ++ fput f := by simp [fjoin]
theorem fjoin_few : ∀ (fs : List Frm), (∀ f ∈ fs, f.2.length ≤ 300) → (fjoin fs).length ≤ fs.length * 309
  | [], _ => by simp [fjoin]
  | f :: fs, h => by
    have := fjoin_few fs (fun g hg => h g (List.mem_cons_of_mem _ hg))
    have h1 := h f List.mem_cons_self
    simp only [fjoin, List.flatMap_cons, List.length_append, fput_length, List.length_cons] at this ⊢
    omega
end Go.Proofs.YtbjoohafgkodcaaGreat
