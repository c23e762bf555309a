/- lenient.read: contract. -/
import Derived.Test.YtbjoohafgkodcaaGreatWl3
import Derived.Test.YtbjoohafgkodcaaGreatHld
import Derived.Test.YtbjoohafgkodcaaGreatSr1
namespace Go.Proofs.YtbjoohafgkodcaaGreat
open Go Go.RowKit Go.Shelf
attribute [local go_sem] Oper.semAt_some

/-- a fault's two numbers -/
def fltI (e : Nat) (at_ : Int) : Value := .agg #[.int .i64 (e : Nat), .int .i64 at_]
theorem loadVar_fltI (w : World) (b : Nat) (e : Nat) (at_ : Int) (h : Blk w b 32 #[.int .i64 (e : Nat), .int .i64 at_]) : (loadVar 32 ⟨b, 0, none⟩).run Tryz.prog w = .ok (fltI e at_) w :=
  run_loadVar_row w b _ _ _ (0, 0) _ h Tryz.underlying32 rfl (by kernel_rfl)
/-- what read returns -/
def ReadP (k : Nat) (ver : Int) (l : List UInt8) (w : World) (e : Ending) (w' : World) : Prop :=
  ∃ lv rv, e = .returned (.tuple #[.agg (msgA (decM k ver l).1 lv), rv, fltI (decM k ver l).2.1 (decM k ver l).2.2]) ∧ OwnT w' w.heap.size lv (decM k ver l).1.l ∧ FlO w' w.heap.size rv (unkM k ver l).1 ∧ Grew w w'
/-- the end of a read that fails -/
theorem read_err {k : Nat} {ver : Int} {l : List UInt8} {w W : World} {e : Nat} {at_ : Int} (h : decM k ver l = (mZ, e, at_)) (he : e ≠ 0) (h0 : Blk W w.heap.size 29 zMsg) (h1 : Blk W (w.heap.size + 1) 95 #[.slice none 0 0]) (h2 : Blk W (w.heap.size + 1 + 1) 32 #[.int .i64 (e : Nat), .int .i64 at_]) (hg : Grew w W)
    (tmps : Array Value) (t0 : tmps.getD 6 undef = .pointer (some ⟨w.heap.size, 0, none⟩)) (t1 : tmps.getD 7 undef = .pointer (some ⟨w.heap.size + 1, 0, none⟩)) (t2 : tmps.getD 8 undef = .pointer (some ⟨w.heap.size + 1 + 1, 0, none⟩)) :
    ∃ v, (results Tryz.f70 tmps).run Tryz.prog W = .ok v W ∧ ReadP k ver l w (.returned v) W := by
  refine ⟨_, results_ccc rfl _ _ _ _ _ _ _ _ t0 t1 t2 (loadVar_msg _ _ mZ (.slice none 0 0) h0) (loadVar_flds _ _ _ h1) (loadVar_fltI _ _ _ _ h2), .slice none 0 0, .slice none 0 0, ?_, ?_, ?_, hg⟩
  · rw [h]
  · rw [h]; exact ownT_none _ _
  · unfold unkM; rw [h, if_pos (by simpa using he)]; exact FlO.nil _ _
def errW (W : World) (b : Nat) (e : Nat) (at_ : Int) : World := ((((chainW W b mZ (.slice none 0 0)).setCell ⟨b + 1, 0, none⟩ (.slice none 0 0)).setCell ⟨b + 1 + 1, 0, none⟩ (.int .i64 (e : Nat))).setCell ⟨b + 1 + 1, 1, none⟩ (.int .i64 at_))
theorem read_err13 {k : Nat} {ver : Int} {l : List UInt8} {w W : World} {e : Nat} {at_ : Int} {x y : Value} (h : decM k ver l = (mZ, e, at_)) (he : e ≠ 0) (h0 : Blk W w.heap.size 29 zMsg) (h1 : Blk W (w.heap.size + 1) 95 #[.slice none 0 0]) (h2 : Blk W (w.heap.size + 1 + 1) 32 #[x, y]) (hg : Grew w W)
    (tmps : Array Value) (t0 : tmps.getD 6 undef = .pointer (some ⟨w.heap.size, 0, none⟩)) (t1 : tmps.getD 7 undef = .pointer (some ⟨w.heap.size + 1, 0, none⟩)) (t2 : tmps.getD 8 undef = .pointer (some ⟨w.heap.size + 1 + 1, 0, none⟩)) :
    ∃ v, (results Tryz.f70 tmps).run Tryz.prog (errW W w.heap.size e at_) = .ok v (errW W w.heap.size e at_) ∧ ReadP k ver l w (.returned v) (errW W w.heap.size e at_) := by
  refine read_err h he ?_ ?_ ?_ ?_ tmps t0 t1 t2
  · exact (((chain_blk (m0 := mZ) (lv0 := .slice none 0 0) h0 mZ (.slice none 0 0)).other ⟨w.heap.size + 1, 0, none⟩ _ (by simp)).other ⟨w.heap.size + 1 + 1, 0, none⟩ _ (by simp; omega)).other ⟨w.heap.size + 1 + 1, 1, none⟩ _ (by simp; omega)
  · exact (((chain_other h1 (by omega) mZ (.slice none 0 0)).set 0 _).other ⟨w.heap.size + 1 + 1, 0, none⟩ _ (by simp)).other ⟨w.heap.size + 1 + 1, 1, none⟩ _ (by simp)
  · exact (((chain_other h2 (by omega) mZ (.slice none 0 0)).other ⟨w.heap.size + 1, 0, none⟩ _ (by simp)).set 0 _).set 1 _
  · exact grew_set (grew_set (grew_set (chain_below hg (Nat.le_refl _) mZ (.slice none 0 0)) (by omega) _) (by omega) _) (by omega) _
theorem wpListIn_pushFo {F : Fence} {n : Nat} {W : World} {ops : Array Oper} {rest : List Oper} {o : Oper} {a : Act} {Q : Exit → Act → World → Prop} (hgd : o.guard = none) (s x : Operand)
    (ho : o.op = .call { callee := .builtin .append, args := #[s, x], argTypes := #[95, 95] })
    (base : Nat) (v : Value) (ps : List FFV) (hs : a.eval s = v) (hown : OwnF W base v ps) (xv : Value) (hx : a.eval x = xv) (p : FFV) (hsl : Sl W xv 1 5 (ffv p)) {l : List UInt8} (hp : Bs W p.2 l)
    (hlen : ps.length + 1 ≤ 1000000000) (hbase : base ≤ W.heap.size)
    (h : ∀ v' w', OwnF w' base v' (ps ++ [p]) → Below base W w' → W.grownBy w' v.ownBlock → wpListIn F n Tryz.prog ops Q rest (a.put o.dst v') w') : wpListIn F n Tryz.prog ops Q (o :: rest) a W := by
  obtain ⟨i0, hi, hz0, hz1, hz2⟩ := info_parts info_field
  exact wpListIn_app hgd s x 95 ho base 101 i0 (.agg #[.int .i64 0, .int .u8 0, .int .u64 0, .slice none 0 0, .int .i64 0]) 5 56 Tryz.underlying95 hi hz0 hz1 hz2 rfl (by decide) v ps.length _ hs hown xv 1 (ffv p) hx hsl (ffv_one p hp) (by unfold maxLen; omega) (by omega) hbase
    fun v' w' h1 h2 => h v' w' (by rw [OwnF, List.length_append, List.flatMap_append]; simpa using h1) (grownBy_below h2 hown hbase) h2
theorem own_kept {w w' : World} {base : Nat} {e : TypeId} {size : Nat} {v : Value} {n : Nat} {xs : List Value} (h : w.ownsRow base e size v n xs) {row : Option Nat} (hg : w.grownBy w' row) (hne : ∀ g, v.ownBlock = some g → some g ≠ row) : w'.ownsRow base e size v n xs :=
  own_block h fun g hb => hg.block g (own_lt h g hb).2 (hne g hb)
theorem FieldsV.kept {w w' : World} {base : Nat} {v : Value} {ps : List FFV} (h : FieldsV w base v ps) {rb : Nat} {rv : Value} {rs : List FFV} (hr : OwnF w rb rv rs) (hg : w.grownBy w' rv.ownBlock) (hne : ∀ g, v.ownBlock = some g → some g ≠ rv.ownBlock) : FieldsV w' base v ps :=
  ⟨own_kept h.1 hg hne, fun p hp => (h.2 p hp).below hg (row_ne hr (by decide) (h.2 p hp))⟩
/-- types that lenient.read's own stores leave alone -/
def RdT (t : TypeId) : Prop := t = 5 ∨ t = 101 ∨ t = 9
instance (t : TypeId) : Decidable (RdT t) := by unfold RdT; infer_instance
theorem KeepT.row {S : TypeId → Prop} {a b : World} (h : KeepT S a b) {p : Nat} {t : TypeId} {cs : Array Value} (hb : Blk b p t cs) (ht : ¬ S t) (new : Array Value) : KeepT S a (b.setRow p new) := by
  refine ⟨by simp only [World.setRow, Array.size_modify]; exact h.1, fun x cs' t' fr hS hx => ?_⟩
  have h1 := h.2 x cs' t' fr hS hx
  rw [setRow_other]
  · exact h1
  · rintro rfl
    have := (show b.heap[x]? = _ from hb).symm.trans h1
    simp at this
    exact ht (this.2.1 ▸ hS)
theorem KeepT.chain {S : TypeId → Prop} {a b : World} (h : KeepT S a b) {p : Nat} {t : TypeId} {cs : Array Value} (hb : Blk b p t cs) (ht : ¬ S t) (m : Msg) (lv : Value) : KeepT S a (chainW b p m lv) := by
  have h0 := h.set hb ht 0 (.int .u8 m.k)
  have h1 := h0.set (hb.set 0 _) ht 1 (.int .u64 (m.n 0))
  have h2 := h1.set ((hb.set 0 _).set 1 _) ht 2 (.int .u64 (m.n 1))
  have h3 := h2.set (((hb.set 0 _).set 1 _).set 2 _) ht 3 (.int .u64 (m.n 2))
  have h4 := h3.set ((((hb.set 0 _).set 1 _).set 2 _).set 3 _) ht 4 (.int .u64 (m.n 3))
  have h5 := h4.set (((((hb.set 0 _).set 1 _).set 2 _).set 3 _).set 4 _) ht 5 (.int .u64 (m.n 4))
  have h6 := h5.set ((((((hb.set 0 _).set 1 _).set 2 _).set 3 _).set 4 _).set 5 _) ht 6 (.int .u64 (m.n 5))
  have h7 := h6.set (((((((hb.set 0 _).set 1 _).set 2 _).set 3 _).set 4 _).set 5 _).set 6 _) ht 7 (.string (m.s 0))
  have h8 := h7.set ((((((((hb.set 0 _).set 1 _).set 2 _).set 3 _).set 4 _).set 5 _).set 6 _).set 7 _) ht 8 (.string (m.s 1))
  exact h8.set (((((((((hb.set 0 _).set 1 _).set 2 _).set 3 _).set 4 _).set 5 _).set 6 _).set 7 _).set 8 _) ht 9 lv
theorem FieldsV.keepT {S : TypeId → Prop} {W W' : World} {base : Nat} {v : Value} {ps : List FFV} (h : FieldsV W base v ps) (ht : KeepT S W W') (h1 : S 5) (h2 : S 101) : FieldsV W' base v ps := ⟨ht.own h.1 h2, fun p hp => (h.2 p hp).keepT ht h1⟩
theorem KeepT.refl {S : TypeId → Prop} (a : World) : KeepT S a a := ⟨Nat.le_refl _, fun _ _ _ _ _ h => h⟩
/-- what read returns at its end -/
theorem read_done {k : Nat} {ver : Int} {l : List UInt8} {ps : List FFV} {fv : Value} {w W : World} {s : Msg} {lv rv : Value} {Bk : Nat} (h : decM k ver l = (s, 0, 0)) (hps : ps.map (·.1) = (fieldsR l).1) (h0 : Blk W w.heap.size 29 (msgA s lv)) (h1 : Blk W (w.heap.size + 1) 95 #[rv]) (h2 : Blk W (w.heap.size + 1 + 1) 32 #[.int .i64 0, .int .i64 0])
    (ho : OwnT W Bk lv s.l) (hr : OwnF W Bk rv (ps.filter fun p => !okP k ver p.1)) (hf : FieldsV W w.heap.size fv ps) (hk : w.heap.size ≤ Bk) (hg : Grew w W)
    (tmps : Array Value) (t0 : tmps.getD 6 undef = .pointer (some ⟨w.heap.size, 0, none⟩)) (t1 : tmps.getD 7 undef = .pointer (some ⟨w.heap.size + 1, 0, none⟩)) (t2 : tmps.getD 8 undef = .pointer (some ⟨w.heap.size + 1 + 1, 0, none⟩)) :
    ∃ v, (results Tryz.f70 tmps).run Tryz.prog W = .ok v W ∧ ReadP k ver l w (.returned v) W := by
  refine ⟨_, results_ccc rfl _ _ _ _ _ _ _ _ t0 t1 t2 (loadVar_msg _ _ s lv h0) (loadVar_flds _ _ _ h1) (loadVar_fltI _ _ 0 0 h2), lv, rv, by rw [h], by rw [h]; exact own_mono ho hk, ?_, hg⟩
  have hu : (unkM k ver l).1 = (ps.filter fun p => !okP k ver p.1).map (·.1) := by
    unfold unkM
    rw [h, if_neg (by simp)]
    show List.filter _ _ = _
    rw [← hps, List.filter_map]
    congr 1
    refine List.filter_congr fun p _ => ?_
    show (belR k ver p.1).isNone = !okP k ver p.1
    cases hq : okP k ver p.1 with
    | false => rw [okP_no hq]; rfl
    | true => obtain ⟨r, e, -⟩ := okP_yes hq; rw [e]; rfl
  rw [hu]
  exact ⟨_, rfl, own_mono hr hk, fun p hp => hf.2 p (List.mem_filter.1 hp).1⟩
theorem cell_set_off {w : World} {p a : Addr} {u : Value} (h : w.cell? p = some u) (v : Value) (hne : p.block ≠ a.block) : (w.setCell a v).cell? p = some u := by
  rw [World.cell?_of_block (w := w) (heap_setCell_other w a p.block v hne)]; exact h
theorem keepsOthers_row {W : World} {p : Nat} {t : TypeId} {cs : Array Value} (hb : Blk W p t cs) (new : Array Value) : KeepsOthers W (W.setRow p new) := by
  refine ⟨by simp [World.setRow], fun k o hk ho => ?_⟩
  by_cases e : k = p
  · subst e
    have := (show W.heap[k]? = _ from hb).symm.trans hk
    simp at this
    subst this
    cases ho
  · exact (setRow_other _ _ _ _ e).trans hk
theorem keepsOthers_chain (W : World) (b : Nat) (m : Msg) (lv : Value) : KeepsOthers W (chainW W b m lv) :=
  (((((((((KeepsOthers.setCell W _ _).trans (KeepsOthers.setCell _ _ _)).trans (KeepsOthers.setCell _ _ _)).trans (KeepsOthers.setCell _ _ _)).trans (KeepsOthers.setCell _ _ _)).trans (KeepsOthers.setCell _ _ _)).trans (KeepsOthers.setCell _ _ _)).trans (KeepsOthers.setCell _ _ _)).trans (KeepsOthers.setCell _ _ _)).trans (KeepsOthers.setCell _ _ _)
theorem own_ne2 {w : World} {b1 b2 : Nat} {e1 e2 : TypeId} {s1 s2 n1 n2 : Nat} {v1 v2 : Value} {x1 x2 : List Value} (h1 : w.ownsRow b1 e1 s1 v1 n1 x1) (h2 : w.ownsRow b2 e2 s2 v2 n2 x2) (he : e1 ≠ e2) : ∀ g, v1.ownBlock = some g → some g ≠ v2.ownBlock := by
  intro g hg e
  rcases h1.2 with ⟨rfl, _⟩ | ⟨g1, c1, u1, rfl, _, hh1, _⟩
  · cases hg
  rcases h2.2 with ⟨rfl, _⟩ | ⟨g2, c2, u2, rfl, _, hh2, _⟩
  · cases e
  simp only [Value.ownBlock, Option.some.injEq] at hg e
  subst hg
  subst e
  rw [hh1] at hh2
  simp at hh2
  exact he hh2.2
/-- what the rounds leave: the result's blocks, the message's, the rest's -/
def LrI (k : Nat) (ver : Int) (ps : List FFV) (fv : Value) (w : World) (Bm Br Bk : Nat) (pre : List FFV) (W : World) : Prop := ∃ (s : Msg) (lv rv : Value),
  Blk W w.heap.size 29 zMsg ∧ Blk W (w.heap.size + 1) 95 #[.slice none 0 0] ∧ Blk W (w.heap.size + 1 + 1) 32 #[.int .i64 0, .int .i64 0] ∧ Blk W Bm 29 (msgA s lv) ∧ Blk W Br 95 #[rv] ∧
  OwnT W Bk lv s.l ∧ OwnF W Bk rv (pre.filter fun p => !okP k ver p.1) ∧ FieldsV W w.heap.size fv ps ∧ Grew w W ∧ Bk ≤ W.heap.size ∧ pre <+: ps ∧ s.l.length ≤ pre.length ∧ RowKit.Hid (decF k ver (m0 k) (pre.map (·.1)) = (s, 0, 0))
def LrX (k : Nat) (ver : Int) (l : List UInt8) (w : World) (c : Code) (_pre : List FFV) (W : World) : Prop := c = .ret ∧ ∃ (e : Nat) (at_ : Int), e ≠ 0 ∧ RowKit.Hid (decM k ver l = (mZ, e, at_)) ∧
  Blk W w.heap.size 29 zMsg ∧ Blk W (w.heap.size + 1) 95 #[.slice none 0 0] ∧ Blk W (w.heap.size + 1 + 1) 32 #[.int .i64 (e : Nat), .int .i64 at_] ∧ Grew w W
theorem LrI.grew {k : Nat} {ver : Int} {ps : List FFV} {fv : Value} {w : World} {Bm Br Bk : Nat} {pre : List FFV} {A B : World} (h : LrI k ver ps fv w Bm Br Bk pre A) (e : Grew A B) : LrI k ver ps fv w Bm Br Bk pre B := by
  obtain ⟨s, lv, rv, h0, h1, h2, h3, h4, h5, h6, h7, h8, h9, h10⟩ := h
  exact ⟨s, lv, rv, h0.grew e, h1.grew e, h2.grew e, h3.grew e, h4.grew e, own_grew h5 e, own_grew h6 e, h7.grew e, h8.trans e, Nat.le_trans h9 e.size, h10⟩
theorem LrI.ck {k : Nat} {ver : Int} {ps : List FFV} {fv : Value} {w : World} {Bm Br Bk n : Nat} {pre : List FFV} {A B : World} (h : LrI k ver ps fv w Bm Br Bk pre A) (e : CK n A B) (hn : w.heap.size ≤ n) : LrI k ver ps fv w Bm Br Bk pre B := by
  obtain ⟨s, lv, rv, h0, h1, h2, h3, h4, h5, h6, h7, h8, h9, h10⟩ := h
  exact ⟨s, lv, rv, e.blk h0, e.blk h1, e.blk h2, e.blk h3, e.blk h4, e.own h5, e.own h6, h7.ck e, e.below h8 hn, Nat.le_trans h9 e.size, h10⟩
theorem LrX.grew {k : Nat} {ver : Int} {l : List UInt8} {w : World} {c : Code} {pre : List FFV} {A B : World} (h : LrX k ver l w c pre A) (e : Grew A B) : LrX k ver l w c pre B := by
  obtain ⟨hc, x, y, h0, h1, h2, h3, h4, h5⟩ := h
  exact ⟨hc, x, y, h0, h1, h2.grew e, h3.grew e, h4.grew e, h5.trans e⟩
theorem LrX.ck {k : Nat} {ver : Int} {l : List UInt8} {w : World} {c : Code} {pre : List FFV} {n : Nat} {A B : World} (h : LrX k ver l w c pre A) (e : CK n A B) (hn : w.heap.size ≤ n) : LrX k ver l w c pre B := by
  obtain ⟨hc, x, y, h0, h1, h2, h3, h4, h5⟩ := h
  exact ⟨hc, x, y, h0, h1, e.blk h2, e.blk h3, e.blk h4, e.below h5 hn⟩
theorem KpP.ck {n₀ base : Nat} {v : Value} {ps : List FFV} {Bl Bk Bv n : Nat} {A B C : World} (h : KpP n₀ base v ps Bl Bk Bv A B) (e : CK n B C) (hn : n₀ ≤ n) : KpP n₀ base v ps Bl Bk Bv A C :=
  ⟨e.below h.1 hn, fun hf => (h.2.1 hf).ck e, h.2.2.1.ck e, h.2.2.2.1.ck e, h.2.2.2.2.ck e⟩
set_option maxRecDepth 100000 in
set_option maxHeartbeats 8000000 in
theorem lread_any (k : Nat) (ver : Int) (l : List UInt8) (v : Value) (w : World) (hb : Bs w v l) (hlen : l.length ≤ 1000000) :
    Calls Tryz.prog 70 #[.int .u8 k, .int .i64 ver, v] w (ReadP k ver l w) := by
  obtain ⟨a, c, rfl⟩ := bs_len hb
  obtain ⟨W0, hW0⟩ : ∃ W0, W0 = ((w.alloc (.cells zMsg 29)).alloc (.cells #[.slice none 0 0] 95)).alloc (.cells #[.int .i64 0, .int .i64 0] 32) := ⟨_, rfl⟩
  have g0 : Grew w W0 := by rw [hW0]; exact (((Below.refl _ _).alloc (Nat.le_refl _) _).alloc (by simp) _).alloc (by simp; omega) _
  have k0 : Blk W0 w.heap.size 29 zMsg := by rw [hW0]; exact ((Blk.new _ _ _).alloc _).alloc _
  have k1 : Blk W0 (w.heap.size + 1) 95 #[.slice none 0 0] := by rw [hW0]; exact (Blk.at (by simp)).alloc _
  have k2 : Blk W0 (w.heap.size + 1 + 1) 32 #[.int .i64 0, .int .i64 0] := by rw [hW0]; exact Blk.at (by simp)
  have G0 := Lib.hid g0
  have K0 := Lib.hid k0
  have K1 := Lib.hid k1
  have K2 := Lib.hid k2
  have HB := Lib.hid hb
  have KO := Lib.hid (fun W => of_any k ver W)
  simp only [zMsg] at hW0
  clear g0 k0 k1 k2 hb
  refine (callsIn_wide (n := 0)).1 (callsIn_of_wp_marks Tryz.func70 rfl trivial ?_ rfl)
  simp only [Tryz.ntmps70, List.size_toArray, List.length_cons, List.length_nil, Nat.reduceAdd, Nat.reduceSub, Array.replicate_succ, Array.replicate_zero, List.push_toArray, List.append_toArray, List.nil_append, List.cons_append]
  gi_wp2_with fail
  rw [← hW0]
  clear hW0
  refine wpIn_scope_wide ?_
  gi_wp2_with fail
  refine (callsIn_wide.2 (KO.out _)).mono ?_
  rintro e w1 ⟨v1, rfl, -, g1⟩
  have G1 := Lib.hid (G0.out.trans g1)
  have K01 := Lib.hid (K0.out.grew g1)
  have K11 := Lib.hid (K1.out.grew g1)
  have K21 := Lib.hid (K2.out.grew g1)
  have HB1 := Lib.hid (HB.out.grew G1.out)
  clear g1
  by_cases hne : ofKind k (rowsIn ver) = []
  · have q0 : decide (0 < (ofKind k (rowsIn ver)).length) = false := by rw [hne]; rfl
    have HS := Lib.hid (show decM k ver l = (mZ, 7, 0) by unfold decM; rw [if_pos hne])
    obtain ⟨o0, o1, o2, o3, o4, o5, o6, o7, o8, o9⟩ := mcells (show Blk w1 w.heap.size 29 (msgA mZ (.slice none 0 0)) from K01.out)
    have fz := fun j => K01.out.frozen j
    have f0 := fz 0
    have f1 := fz 1
    have f2 := fz 2
    have f3 := fz 3
    have f4 := fz 4
    have f5 := fz 5
    have f6 := fz 6
    have f7 := fz 7
    have f8 := fz 8
    have f9 := fz 9
    have c1 := K11.out.cell 0
    have z1 := K11.out.frozen 0
    simp only [List.getElem?_toArray, List.getElem?_cons_zero] at c1
    obtain ⟨u0, u1, u2, u3⟩ := cells_of K21.out
    clear fz hne
    gi_wp2
    rw [Exit.noGoto_ret]
    exact read_err13 HS.out (by omega) K01.out K11.out K21.out G1.out _ rfl rfl rfl
  have q0 : decide (0 < (ofKind k (rowsIn ver)).length) = true := by
    cases hh : ofKind k (rowsIn ver) with
    | nil => exact absurd hh hne
    | cons r L => simp
  by_cases h8 : 8192 < l.length
  · have q1 : decide ((l.length : Int) > 8192) = true := decide_eq_true (by omega)
    have HS := Lib.hid (show decM k ver l = (mZ, 2, 0) by unfold decM; rw [if_neg hne, if_pos h8])
    obtain ⟨o0, o1, o2, o3, o4, o5, o6, o7, o8, o9⟩ := mcells (show Blk w1 w.heap.size 29 (msgA mZ (.slice none 0 0)) from K01.out)
    have fz := fun j => K01.out.frozen j
    have f0 := fz 0
    have f1 := fz 1
    have f2 := fz 2
    have f3 := fz 3
    have f4 := fz 4
    have f5 := fz 5
    have f6 := fz 6
    have f7 := fz 7
    have f8 := fz 8
    have f9 := fz 9
    have c1 := K11.out.cell 0
    have z1 := K11.out.frozen 0
    simp only [List.getElem?_toArray, List.getElem?_cons_zero] at c1
    obtain ⟨u0, u1, u2, u3⟩ := cells_of K21.out
    clear fz hne h8
    gi_wp2
    rw [Exit.noGoto_ret]
    exact read_err13 HS.out (by omega) K01.out K11.out K21.out G1.out _ rfl rfl rfl
  have q1 : decide ((l.length : Int) > 8192) = false := decide_eq_false (by omega)
  have HNE := Lib.hid hne
  have H8 := Lib.hid h8
  clear hne
  gi_wp2_with fail
  refine (callsIn_wide.2 (sfields_any l _ _ HB1.out (by omega))).mono ?_
  obtain ⟨F, hF⟩ : ∃ F, F = fieldsR l := ⟨_, rfl⟩
  rw [← hF]
  rintro e w2 ⟨v2, rfl, ⟨ps, hps, hfv⟩, g2⟩
  obtain ⟨a2, c2, rfl, -, -, -, -⟩ := hfv.flr.1.open
  obtain ⟨wd, hwd⟩ : ∃ wd, wd = w2.alloc (.cells #[.int .i64 (F.2.1 : Nat), .int .i64 (F.2.2 : Nat)] 32) := ⟨_, rfl⟩
  have gd : Grew w2 wd := by rw [hwd]; exact grew_alloc _ _
  have kd : Blk wd w2.heap.size 32 #[.int .i64 (F.2.1 : Nat), .int .i64 (F.2.2 : Nat)] := by rw [hwd]; exact Blk.new _ _ _
  have K02 := Lib.hid ((K01.out.grew g2).grew gd)
  have K12 := Lib.hid ((K11.out.grew g2).grew gd)
  have K22 := Lib.hid ((K21.out.grew g2).grew gd)
  have G2 := Lib.hid ((G1.out.trans g2).trans gd)
  have KD := Lib.hid kd
  have hz2 : w.heap.size + 1 + 1 < w2.heap.size := (K21.out.grew g2).lt
  have HFV := Lib.hid ((hfv.grew gd).mono (show w.heap.size ≤ w1.heap.size from G1.out.size))
  have HPS := Lib.hid hps
  have HF := Lib.hid hF
  obtain ⟨d0, d1, d2, d3⟩ := cells_of kd
  rw [hwd] at d0 d1 d2 d3
  have HWD := Lib.hid hwd
  clear gd kd g2 hfv hps hwd
  by_cases he : F.2.1 ≠ 0
  · have qe : ((F.2.1 : Int) != 0) = true := by simp; omega
    have HS := Lib.hid (show decM k ver l = (mZ, F.2.1, (F.2.2 : Int)) by unfold decM; rw [if_neg HNE.out, if_neg H8.out, ← hF, if_pos he])
    have HE := Lib.hid he
    clear he hF
    simp only [faultV]
    gi_wp2_with fail
    rw [← HWD.out]
    refine wpIn_region_held (S := fun W => Blk W w2.heap.size 32 #[.int .i64 (F.2.1 : Nat), .int .i64 (F.2.2 : Nat)]) open_wide (by kernel_rfl) (by kernel_rfl) KD.out.drew (fun hHeld => ?_)
    · refine wpAnyH_take (i := 0) (oi := ⟨some 41, _, _, _, _, _⟩) (v := .agg zMsg) rfl (by kernel_rfl) (by kernel_rfl) (by kernel_rfl) (fun _ _ _ h => h) (Or.inl ⟨by rfl, ?_⟩) (by assumption) ?_
      · intro W hSw
        go_simp
        rfl
      simp only [Act.put, List.setIfInBounds_toArray, List.set_cons_zero, List.set_cons_succ]
      refine wpAnyH_take (i := 1) (oi := ⟨some 42, _, _, _, _, _⟩) (v := .agg #[.int .i64 (F.2.1 : Nat), .int .i64 (F.2.2 : Nat)]) rfl (by kernel_rfl) (by kernel_rfl) (by kernel_rfl) (fun _ _ _ h => h) (y_row 32 _ rfl w2.heap.size rfl 32 _ _ (fun W h => h) Tryz.underlying32 rfl (by kernel_rfl) rfl) (by assumption) ?_
      simp only [Act.put, List.setIfInBounds_toArray, List.set_cons_zero, List.set_cons_succ]
      refine wpAnyH_ready (rs := [2]) (by kernel_rfl) (by simp) ?_
      refine AllReadyH.cons (o := _) rfl (fun K hK => ?_) AllReadyH.nil
      refine wp_store_row 29 _ _ rfl w.heap.size zMsg rfl rfl 29 _ K02.out.drew (by kernel_rfl) rfl (by simp [zMsg, Value.oneCell']) ?_
      refine hK.out _ _ (KD.out.drew.rowOther (by omega)) (fun _ => ?_)
      clear hK K
      simp only [Act.put]
      refine wpAnyH_ready (rs := [3]) (by kernel_rfl) (by simp) ?_
      refine AllReadyH.cons (o := _) rfl (fun K hK => ?_) AllReadyH.nil
      refine wp_store_slice 95 _ _ rfl (w.heap.size + 1) none 0 0 rfl rfl 95 _ (K12.out.drew.rowOther (by omega)) (by kernel_rfl) ?_
      refine hK.out _ _ ((KD.out.drew.rowOther (by omega)).other ⟨w.heap.size + 1, 0, none⟩ _ (by simp; omega)) (fun _ => ?_)
      clear hK K
      simp only [Act.put]
      refine wpAnyH_ready (rs := [4]) (by kernel_rfl) (by simp) ?_
      refine AllReadyH.cons (o := _) rfl (fun K hK => ?_) AllReadyH.nil
      refine wp_store_pair 32 _ _ rfl (w.heap.size + 1 + 1) _ _ rfl rfl 32 _ ((K22.out.drew.rowOther (by omega)).other ⟨w.heap.size + 1, 0, none⟩ _ (by simp)) (by kernel_rfl) rfl rfl rfl ?_
      refine hK.out _ _ (((KD.out.drew.rowOther (by omega)).other ⟨w.heap.size + 1, 0, none⟩ _ (by simp; omega)).rowOther (by omega)) (fun _ => ?_)
      clear hK K
      simp only [Act.put]
      refine wpAnyH_done (by kernel_rfl) ?_ _
      have r0 := ((K02.out.drew.row zMsg).other ⟨w.heap.size + 1, 0, none⟩ (.slice none 0 0) (by simp)).rowOther (b := w.heap.size + 1 + 1) (new := #[.int .i64 (F.2.1 : Nat), .int .i64 (F.2.2 : Nat)]) (by omega)
      have r1 := ((K12.out.drew.rowOther (b := w.heap.size) (new := zMsg) (by omega)).set 0 (.slice none 0 0)).rowOther (b := w.heap.size + 1 + 1) (new := #[.int .i64 (F.2.1 : Nat), .int .i64 (F.2.2 : Nat)]) (by omega)
      have r2 := ((K22.out.drew.rowOther (b := w.heap.size) (new := zMsg) (by omega)).other ⟨w.heap.size + 1, 0, none⟩ (.slice none 0 0) (by simp)).row #[.int .i64 (F.2.1 : Nat), .int .i64 (F.2.2 : Nat)]
      have r3 := below_setRow (grew_set (below_setRow (G2.out.trans (Drew.grew ⟨1, rfl⟩ : Grew _ wd.drew)) (Nat.le_refl _) zMsg) (show w.heap.size ≤ w.heap.size + 1 by omega) (j := 0) (.slice none 0 0)) (show w.heap.size ≤ w.heap.size + 1 + 1 by omega) #[.int .i64 (F.2.1 : Nat), .int .i64 (F.2.2 : Nat)]
      have R0 := Lib.hid r0
      have R1 := Lib.hid r1
      have R2 := Lib.hid r2
      have R3 := Lib.hid r3
      clear r0 r1 r2 r3 hHeld
      simp only [onlyN]
      gi_wp2
      rw [Exit.noGoto_ret]
      exact read_err HS.out HE.out R0.out R1.out R2.out R3.out _ rfl rfl rfl
  have he0 : F.2.1 = 0 := by omega
  have HE0 := Lib.hid he0
  have qe : ((F.2.1 : Int) != 0) = false := by simp; omega
  have HS := Lib.hid (show decM k ver l = decF k ver (m0 k) (ps.map (·.1)) by unfold decM; rw [if_neg HNE.out, if_neg H8.out, ← hF, if_neg he, HPS.out])
  have hvb : ∀ g, (Value.slice a2 ps.length c2).ownBlock = some g → g < wd.heap.size := fun g hg => (own_lt HFV.out.1 g hg).2
  have hpl : ps.length ≤ 8192 := by have h := fieldsR_len l; rw [← hF, ← HPS.out, List.length_map] at h; omega
  obtain ⟨wm, hwm⟩ : ∃ wm, wm = (wd.alloc (.cells (msgA (m0 k) (.slice none 0 0)) 29)).alloc (.cells #[.slice none 0 0] 95) := ⟨_, rfl⟩
  have gm : Grew wd wm := by rw [hwm]; exact ((Below.refl _ _).alloc (Nat.le_refl _) _).alloc (by simp) _
  have km : Blk wm wd.heap.size 29 (msgA (m0 k) (.slice none 0 0)) := by rw [hwm]; exact (Blk.new _ _ _).alloc _
  have kr : Blk wm (wd.heap.size + 1) 95 #[.slice none 0 0] := by rw [hwm]; exact Blk.at (by simp)
  have hzm : wm.heap.size = wd.heap.size + 1 + 1 := by rw [hwm]; simp
  obtain ⟨wp, hwp⟩ : ∃ wp, wp = ((wm.alloc (.cells #[.int .u8 k] 5)).alloc (.cells #[.int .i64 ver] 3)).alloc (.cells #[.slice a2 ps.length c2] 95) := ⟨_, rfl⟩
  have gp : Grew wm wp := by rw [hwp]; exact (((Below.refl _ _).alloc (Nat.le_refl _) _).alloc (by simp) _).alloc (by simp; omega) _
  have kk : Blk wp wm.heap.size 5 #[.int .u8 k] := by rw [hwp]; exact ((Blk.new _ _ _).alloc _).alloc _
  have kv : Blk wp (wm.heap.size + 1) 3 #[.int .i64 ver] := by rw [hwp]; exact (Blk.at (by simp)).alloc _
  have kl : Blk wp (wm.heap.size + 1 + 1) 95 #[.slice a2 ps.length c2] := by rw [hwp]; exact Blk.at (by simp)
  have hzp : wp.heap.size = wm.heap.size + 1 + 1 + 1 := by rw [hwp]; simp
  have hzd : wd.heap.size = w2.heap.size + 1 := by rw [HWD.out]; simp
  have GP := Lib.hid gp
  have GM := Lib.hid gm
  have KK := Lib.hid kk
  have KV := Lib.hid kv
  have KL := Lib.hid kl
  have KM := Lib.hid km
  have KR := Lib.hid kr
  have HZP := Lib.hid hzp
  have HZM := Lib.hid hzm
  have HZD := Lib.hid hzd
  have HVB := Lib.hid hvb
  have HWP := Lib.hid hwp
  have HPL := Lib.hid hpl
  have KPA := Lib.hid (parts9_any k ver a2 ps.length c2 wm)
  simp only [msgA, m0, Int.natCast_zero] at hwm
  have HWM := Lib.hid hwm
  clear gp gm kk kv kl km kr hzp hzm hzd hvb hwp hwm he hF he0 hpl
  simp only [faultV]
  gi_wp2_with fail
  rw [← HWD.out, ← HWM.out]
  refine wpIn_label ?_
  gi_wp2_with fail
  refine (callsIn_wide.2 KPA.out).mono ?_
  rintro e w3 ⟨rfl, rfl⟩
  gi_wp2_with fail
  rw [← HWP.out]
  have HFP := Lib.hid ((HFV.out.grew GM.out).grew GP.out)
  have G3 := Lib.hid ((G2.out.trans GM.out).trans GP.out)
  have HBm := Lib.hid HZD.out.symm
  refine wpIn_iterW (gf := 113) (lb := #[.pointer (some ⟨wm.heap.size + 1 + 1, 0, none⟩), .pointer (some ⟨wm.heap.size, 0, none⟩), .pointer (some ⟨wm.heap.size + 1, 0, none⟩)]) rfl (enters_of Tryz.func113 (by kernel_rfl) rfl)
    (parts9_iter k ver ps (.slice a2 ps.length c2) (wm.heap.size + 1 + 1) wm.heap.size (wm.heap.size + 1) w.heap.size w.heap.size wp G3.out.size KL.out KK.out KV.out HFP.out (by have := HPL.out; omega))
    (fun A B e => keepsOthers_grew e) (fun A B C h1 h2 => h1.ck h2 G3.out.size) (fun _ => rfl)
    (LrI k ver ps (.slice a2 ps.length c2) w (w2.heap.size + 1) (w2.heap.size + 1 + 1) wm.heap.size) (LrX k ver l w) (fun pre A B h e => h.grew e) (fun pre A B h hc => h.ck hc G3.out.size) (fun _ _ _ _ h e => h.grew e) (fun _ _ _ _ h hc => h.ck hc G3.out.size)
    ⟨m0 k, .slice none 0 0, .slice none 0 0, (K02.out.grew GM.out).grew GP.out, (K12.out.grew GM.out).grew GP.out, (K22.out.grew GM.out).grew GP.out, by rw [HBm.out]; exact KM.out.grew GP.out, by rw [HBm.out]; exact KR.out.grew GP.out, ownT_none _ _, World.ownsRow_nil _ _ _ _, HFP.out, G3.out, GP.out.size, List.nil_prefix, Nat.zero_le _, Lib.hid rfl⟩ ?round ?done ?stop
  case stop =>
    rintro cd pre W - ⟨rfl, ee, at_, h1, h2, h3, h4, h5, h6⟩ hD
    gi_wp2
    try rw [Exit.noGoto_ret]
    have hck := CK.putObj w.heap.size W _ _ (.deferred none) hD rfl G3.out.size
    refine ⟨by simp, .inl ⟨_, _, rfl, run_takeDeferred hD, ?_⟩⟩
    exact read_err h2.out h1 (hck.blk h3) (hck.blk h4) (hck.blk h5) (hck.below h6 (Nat.le_refl _)) _ rfl rfl rfl
  case done =>
    rintro xs W rfl ⟨s, lv, rv, h0, h1, h2, h3, h4, h5, h6, h7, h8, -, h9, h10, h11⟩ hD
    have HS2 := Lib.hid (show decM k ver l = (s, 0, 0) by rw [HS.out]; exact h11.out)
    have hzb : w.heap.size + 1 + 1 < w2.heap.size := hz2
    obtain ⟨ar, nr, cr, rfl, -⟩ : ∃ a n c, rv = .slice a n c ∧ True := by obtain ⟨a, c, e, _⟩ := (Sl.of_own h6).open; exact ⟨a, _, c, e, trivial⟩
    obtain ⟨al, cl, rfl⟩ := tx_len (Sl.of_own h5)
    have H0 := Lib.hid h0
    have H1 := Lib.hid h1
    have H2 := Lib.hid h2
    have H3 := Lib.hid h3
    have H4 := Lib.hid h4
    have H5 := Lib.hid h5
    have H6 := Lib.hid h6
    have H7 := Lib.hid h7
    have H8 := Lib.hid h8
    clear h0 h1 h2 h5 h6 h7 h8 h9 h10 h11 KPA
    gi_wp2_with fail
    refine wpIn_region_held (S := fun W => Blk W (w2.heap.size + 1) 29 (msgA s (.slice al s.l.length cl)) ∧ Blk W (w2.heap.size + 1 + 1) 95 #[.slice ar nr cr]) open_wide (by kernel_rfl) (by kernel_rfl) ⟨h3.drew, h4.drew⟩ (fun hHeld => ?_)
    clear h3 h4
    refine wpAnyH_take (i := 0) (oi := ⟨some 76, _, _, _, _, _⟩) (v := .agg (msgA s (.slice al s.l.length cl))) rfl (by kernel_rfl) (by kernel_rfl) (by kernel_rfl) (fun _ _ _ h => h) (y_row 29 _ rfl (w2.heap.size + 1) rfl 29 _ _ (fun W h => h.1) Tryz.underlying29 rfl (by kernel_rfl) rfl) (by assumption) ?_
    simp only [Act.put, List.setIfInBounds_toArray, List.set_cons_zero, List.set_cons_succ]
    refine wpAnyH_take (i := 1) (oi := ⟨some 77, _, _, _, _, _⟩) (v := .slice ar nr cr) rfl (by kernel_rfl) (by kernel_rfl) (by kernel_rfl) (fun _ _ _ h => h) (Or.inl ⟨by rfl, ?_⟩) (by assumption) ?_
    · rintro W ⟨-, hW⟩
      have c0 := hW.cell 0
      simp only [List.getElem?_toArray, List.getElem?_cons_zero] at c0
      go_simp
    simp only [Act.put, List.setIfInBounds_toArray, List.set_cons_zero, List.set_cons_succ]
    refine wpAnyH_take (i := 2) (oi := ⟨some 78, _, _, _, _, _⟩) (v := .agg #[.int .i64 0, .int .i64 0]) rfl (by kernel_rfl) (by kernel_rfl) (by kernel_rfl) (fun _ _ _ h => h) (Or.inl ⟨by rfl, ?_⟩) (by assumption) ?_
    · intro W hSw
      go_simp
      try rfl
    simp only [Act.put, List.setIfInBounds_toArray, List.set_cons_zero, List.set_cons_succ]
    refine wpAnyH_ready (rs := [3]) (by kernel_rfl) (by simp) ?_
    refine AllReadyH.cons (o := _) rfl (fun K hK => ?_) AllReadyH.nil
    refine wp_store_row 29 _ _ rfl w.heap.size (msgA s (.slice al s.l.length cl)) rfl rfl 29 _ H0.out.drew (by kernel_rfl) rfl (msgA_one _ _ _ _) ?_
    refine hK.out _ _ ⟨hHeld.1.rowOther (by omega), hHeld.2.rowOther (by omega)⟩ (fun _ => ?_)
    clear hK K
    simp only [Act.put]
    refine wpAnyH_ready (rs := [4]) (by kernel_rfl) (by simp) ?_
    refine AllReadyH.cons (o := _) rfl (fun K hK => ?_) AllReadyH.nil
    refine wp_store_slice 95 _ _ rfl (w.heap.size + 1) ar nr cr rfl rfl 95 _ (H1.out.drew.rowOther (by omega)) (by kernel_rfl) ?_
    refine hK.out _ _ ⟨(hHeld.1.rowOther (by omega)).other ⟨w.heap.size + 1, 0, none⟩ _ (by simp; omega), (hHeld.2.rowOther (by omega)).other ⟨w.heap.size + 1, 0, none⟩ _ (by simp; omega)⟩ (fun _ => ?_)
    clear hK K
    simp only [Act.put]
    refine wpAnyH_ready (rs := [5]) (by kernel_rfl) (by simp) ?_
    refine AllReadyH.cons (o := _) rfl (fun K hK => ?_) AllReadyH.nil
    refine wp_store_pair 32 _ _ rfl (w.heap.size + 1 + 1) _ _ rfl rfl 32 _ ((H2.out.drew.rowOther (by omega)).other ⟨w.heap.size + 1, 0, none⟩ _ (by simp)) (by kernel_rfl) rfl rfl rfl ?_
    refine hK.out _ _ ⟨((hHeld.1.rowOther (by omega)).other ⟨w.heap.size + 1, 0, none⟩ _ (by simp; omega)).rowOther (by omega), ((hHeld.2.rowOther (by omega)).other ⟨w.heap.size + 1, 0, none⟩ _ (by simp; omega)).rowOther (by omega)⟩ (fun _ => ?_)
    clear hK K hHeld
    simp only [Act.put]
    refine wpAnyH_done (by kernel_rfl) ?_ _
    obtain ⟨WF, hWF⟩ : ∃ WF, WF = (((W.drew.setRow w.heap.size (msgA s (.slice al s.l.length cl))).setCell ⟨w.heap.size + 1, 0, none⟩ (.slice ar nr cr)).setRow (w.heap.size + 1 + 1) #[.int .i64 0, .int .i64 0]) := ⟨_, rfl⟩
    have b1 := H1.out.drew.rowOther (b := w.heap.size) (new := msgA s (.slice al s.l.length cl)) (by omega)
    have b2 := (H2.out.drew.rowOther (b := w.heap.size) (new := msgA s (.slice al s.l.length cl)) (by omega)).other ⟨w.heap.size + 1, 0, none⟩ (.slice ar nr cr) (by simp)
    have kt : KeepT RdT W WF := by
      rw [hWF]
      exact (((KeepT.of_grew (Drew.grew ⟨1, rfl⟩ : Grew W W.drew)).row H0.out.drew (by decide) _).set b1 (by decide) 0 _).row b2 (by decide) _
    have r0 : Blk WF w.heap.size 29 (msgA s (.slice al s.l.length cl)) := by rw [hWF]; exact ((H0.out.drew.row _).other ⟨w.heap.size + 1, 0, none⟩ _ (by simp)).rowOther (by omega)
    have r1 : Blk WF (w.heap.size + 1) 95 #[.slice ar nr cr] := by rw [hWF]; exact (b1.set 0 _).rowOther (by omega)
    have r2 : Blk WF (w.heap.size + 1 + 1) 32 #[.int .i64 0, .int .i64 0] := by rw [hWF]; exact b2.row _
    have r3 : Grew w WF := by rw [hWF]; exact below_setRow (grew_set (below_setRow (H8.out.trans (Drew.grew ⟨1, rfl⟩ : Grew _ W.drew)) (Nat.le_refl _) _) (show w.heap.size ≤ w.heap.size + 1 by omega) (j := 0) _) (show w.heap.size ≤ w.heap.size + 1 + 1 by omega) _
    have hzp : w.heap.size + 1 + 1 < wp.heap.size := by have := GP.out.size; have := GM.out.size; have := HZD.out; omega
    have hD9 : WF.heap[wp.heap.size]? = some (.deferred (some [])) := by
      rw [hWF]
      exact (setRow_other _ _ _ _ (by omega)).trans ((heap_setCell_other _ ⟨w.heap.size + 1, 0, none⟩ _ _ (by simp; omega)).trans ((setRow_other _ _ _ _ (by omega)).trans hD))
    rw [← hWF]
    have HK9 := Lib.hid kt
    clear hWF kt b1 b2
    simp only [onlyN]
    gi_wp2
    rw [Exit.noGoto_ret]
    have hck := CK.putObj w.heap.size WF _ _ (.deferred none) hD9 rfl G3.out.size
    refine ⟨by simp, .inl ⟨_, _, rfl, run_takeDeferred hD9, ?_⟩⟩
    exact read_done HS2.out (by rw [HPS.out, HF.out]) (hck.blk r0) (hck.blk r1) (hck.blk r2) (hck.own (HK9.out.own H5.out (by decide))) (hck.own (HK9.out.own H6.out (by decide))) ((H7.out.keepT HK9.out (by decide) (by decide)).ck hck) (by have := GM.out.size; have := HZD.out; omega) (hck.below r3 (Nat.le_refl _)) _ rfl rfl rfl
  case round =>
    rintro lp pre ⟨X, xv⟩ W hi ⟨hpre, hxb⟩
    simp only at hxb
    obtain ⟨xa, xc, rfl⟩ := bs_len hxb
    have hsz : True := trivial
    obtain ⟨W1, hW1⟩ : ∃ W1, W1 = W.alloc (.cells (partA k ver (X, .slice xa (fB X).length xc)) 149) := ⟨_, rfl⟩
    have hga : Grew W W1 := by rw [hW1]; exact grew_alloc _ _
    have hA : Blk W1 W.heap.size 149 (partA k ver (X, .slice xa (fB X).length xc)) := by rw [hW1]; exact Blk.new _ _ _
    have HPRE := Lib.hid hpre
    have hwW : wm.heap.size ≤ W.heap.size := by obtain ⟨_, _, _, _, _, _, _, _, _, _, _, _, h, _⟩ := hi; exact h
    simp only [encP]
    simp only [partA] at hW1 ⊢
    clear hpre
    gi_wp2
    try rw [← hW1]
    refine ⟨keepsOthers_grew hga, fun h => h.grew hga, ?_⟩
    rintro W2 hck hsz2 ⟨s, lv, rv, h0, h1, h2, h3, h4, h5, h6, h7, h8, hwm2, h9, h10, h11⟩
    have b0 := hck.blk hA
    have hkl : KpP w.heap.size w.heap.size (.slice a2 ps.length c2) ps (wm.heap.size + 1 + 1) wm.heap.size (wm.heap.size + 1) W W2 := KpP.ck ⟨hga.mono (by obtain ⟨_, _, _, _, _, _, _, _, _, _, _, h, _⟩ := hi; exact h.size), fun h => h.grew hga, fun cs hc => hc.grew hga, fun cs hc => hc.grew hga, fun cs hc => hc.grew hga⟩ hck G3.out.size
    have hxb2 : Bs W2 (.slice xa (fB X).length xc) (fB X) := by
      obtain ⟨t, ht⟩ := HPRE.out
      exact (h7.2 (X, .slice xa (fB X).length xc) (by rw [← ht]; simp)).1
    obtain ⟨ar, nr, cr, rfl, -⟩ : ∃ a n c, rv = .slice a n c ∧ True := by obtain ⟨a, c, e, _⟩ := (Sl.of_own h6).open; exact ⟨a, _, c, e, trivial⟩
    obtain ⟨al, cl, rfl⟩ := tx_len (Sl.of_own h5)
    have hbw : ∀ j, W2.cell? ⟨W.heap.size, j, none⟩ = (partA k ver (X, .slice xa (fB X).length xc))[j]? := fun j => b0.cell j
    have q0 := hbw 0
    have q1 := hbw 1
    have q2 := hbw 2
    have q3 := hbw 3
    have q4 := hbw 4
    have q5 := hbw 5
    have q6 := hbw 6
    have q7 := hbw 7
    have q8 := hbw 8
    simp only [partA, List.getElem?_toArray, List.getElem?_cons_zero, List.getElem?_cons_succ] at q0 q1 q2 q3 q4 q5 q6 q7 q8
    have H0 := Lib.hid h0
    have H1 := Lib.hid h1
    have H2 := Lib.hid h2
    have H3 := Lib.hid h3
    have H4 := Lib.hid h4
    have H5 := Lib.hid h5
    have H6 := Lib.hid h6
    have H7 := Lib.hid h7
    have H8 := Lib.hid h8
    have H11 := Lib.hid h11.out
    have HKL := Lib.hid hkl
    have HXB := Lib.hid hxb2
    have HB0 := Lib.hid b0
    have hpl : pre.length + 1 ≤ 8192 := by have := HPRE.out.length_le; have := HPL.out; simp at *; omega
    have hzb : w.heap.size + 1 + 1 < w2.heap.size := hz2
    have hzc : w2.heap.size + 1 + 1 < wm.heap.size := by have := HZM.out; have := HZD.out; omega
    clear hi hga hck hsz2 hA hW1 hbw b0 h0 h1 h2 h5 h6 h7 h8 h9 h11 hkl hxb hxb2 hsz KPA
    cases hok : okP k ver X with
    | false =>
      rw [hok] at q8
      have HOK := Lib.hid hok
      have c4 := h4.cell 0
      simp only [List.getElem?_toArray, List.getElem?_cons_zero] at c4
      clear hok h3 h4
      have gx := grew_alloc W2 (.cells #[.int .i64 X.1, .int .u8 (X.2.1 : Nat), .int .u64 (X.2.2.1 : Nat), .slice xa (fB X).length xc, .int .i64 X.2.2.2.2] 101)
      have HSL := Lib.hid (show Sl (W2.alloc (.cells #[.int .i64 X.1, .int .u8 (X.2.1 : Nat), .int .u64 (X.2.2.1 : Nat), .slice xa (fB X).length xc, .int .i64 X.2.2.2.2] 101)) (.slice (some ⟨W2.heap.size, 0, none⟩) 1 1) 1 5 (ffv (X, .slice xa (fB X).length xc)) from Sl.lit W2 101 (0, 0) #[.int .i64 X.1, .int .u8 (X.2.1 : Nat), .int .u64 (X.2.2.1 : Nat), .slice xa (fB X).length xc, .int .i64 X.2.2.2.2] 1 5 rfl (by unfold maxLen; omega))
      have HO := Lib.hid (own_grew H6.out gx)
      have HBX := Lib.hid (HXB.out.grew gx)
      have HGX := Lib.hid gx
      have hrl : (pre.filter fun p => !okP k ver p.1).length + 1 ≤ 1000000000 := by have := List.length_filter_le (fun p : FFV => !okP k ver p.1) pre; omega
      have hwz := H8.out.size
      have hbase : wm.heap.size ≤ (W2.alloc (.cells #[.int .i64 X.1, .int .u8 (X.2.1 : Nat), .int .u64 (X.2.2.1 : Nat), .slice xa (fB X).length xc, .int .i64 X.2.2.2.2] 101)).heap.size := by simp; omega
      clear gx
      gi_wp2_with (gi_at_builtin; refine wpListIn_pushFo rfl _ _ rfl wm.heap.size _ (pre.filter fun p => !okP k ver p.1) rfl HO.out _ rfl (X, .slice xa (fB X).length xc) HSL.out HBX.out hrl hbase ?_; intro v' w9 hown9 hB9 hgb; obtain ⟨a8, n8, c8, e8, -⟩ : ∃ a n c, v' = .slice a n c ∧ True := (by obtain ⟨a, c, e, _⟩ := (Sl.of_own hown9).open; exact ⟨a, _, c, e, trivial⟩); subst e8; have h4w := (H4.out.grew HGX.out).kept hgb (fun e => by have := (own_lt HO.out _ e.symm).1; omega); have c4w := h4w.cell 0; simp only [List.getElem?_toArray, List.getElem?_cons_zero] at c4w; have f4w := h4w.frozen 0)
      have kb : ∀ b t cs, Blk W2 b t cs → t ≠ 101 → b ≠ w2.heap.size + 1 + 1 → Blk (w9.setCell ⟨w2.heap.size + 1 + 1, 0, none⟩ (.slice a8 n8 c8)) b t cs := fun b t cs h ht hne =>
        ((h.grew HGX.out).kept hgb (blk_ne_row (h.grew HGX.out) HO.out ht)).other ⟨w2.heap.size + 1 + 1, 0, none⟩ _ hne
      have hne2 : ∀ g, (Value.slice a2 ps.length c2).ownBlock = some g → some g ≠ (Value.slice ar nr cr).ownBlock := fun g hg e => by
        have h5 := HVB.out g hg
        have h6 := (own_lt HO.out g e.symm).1
        have h7 := HZM.out
        omega
      have hfk := fun (A : World) (hA : FieldsV W2 w.heap.size (.slice a2 ps.length c2) ps) => ((hA.grew HGX.out).kept HO.out hgb hne2).set h4w (by decide) (by decide) 0 (.slice a8 n8 c8)
      have gB : Below w.heap.size W2 (w9.setCell ⟨w2.heap.size + 1 + 1, 0, none⟩ (.slice a8 n8 c8)) := grew_set (Below.trans (HGX.out.mono hwz) (hB9.mono (by omega))) (by omega) _
      refine ⟨((keepsOthers_grew HGX.out).trans (keepsOthers_app HO.out hgb)).trans (KeepsOthers.setCell _ _ _), ?_, ?_⟩
      · refine ⟨Below.trans HKL.out.1 gB, fun h => hfk W2 (HKL.out.2.1 h), fun cs hc => kb _ _ _ (HKL.out.2.2.1 cs hc) (by decide) (by omega), fun cs hc => kb _ _ _ (HKL.out.2.2.2.1 cs hc) (by decide) (by omega), fun cs hc => kb _ _ _ (HKL.out.2.2.2.2 cs hc) (by decide) (by omega)⟩
      · refine ⟨s, .slice al s.l.length cl, .slice a8 n8 c8, kb _ _ _ H0.out (by decide) (by omega), kb _ _ _ H1.out (by decide) (by omega), kb _ _ _ H2.out (by decide) (by omega), kb _ _ _ H3.out (by decide) (by omega), h4w.set 0 _, ?_, ?_, hfk W2 H7.out, Below.trans H8.out gB, ?_, HPRE.out, by rw [List.length_append]; exact Nat.le_trans h10 (Nat.le_add_right _ _), Lib.hid ?_⟩
        · have hs5 := own_grew H5.out HGX.out
          exact own_set (own_kept hs5 hgb (own_ne2 hs5 HO.out (by decide))) _ _ (fun e => by have := (own_lt hs5 _ e).1; simp at this; omega)
        · rw [List.filter_append]
          have e1 : [(X, Value.slice xa (fB X).length xc)].filter (fun p : FFV => !okP k ver p.1) = [(X, Value.slice xa (fB X).length xc)] := by simp [HOK.out]
          rw [e1]
          exact own_set hown9 _ _ (fun e => blk_ne_row h4w hown9 (by decide) e.symm)
        · have := gB.size; simp at *; omega
        · rw [List.map_append, decF_app _ _ _ _ _ (by rw [H11.out]), H11.out]
          exact decF_skip (okP_no HOK.out)
    | true =>
      rw [hok] at q8
      obtain ⟨r, hr, r1, r2, r3⟩ := okP_yes hok
      have HR := Lib.hid hr
      have HOK := Lib.hid hok
      have hsl : s.l.length ≤ 8192 := Nat.le_trans h10 (by omega)
      have hxn : fN X < 18446744073709551616 ∧ (fB X).length ≤ 8192 := by
        obtain ⟨t, ht⟩ := HPRE.out
        have hm : X ∈ (fieldsR l).1 := by rw [← HF.out, ← HPS.out, ← ht]; simp
        have he9 : (fieldsR l).2.1 = 0 := by rw [← HF.out]; exact HE0.out
        have h5 := fields_num he9 X hm
        have h6 := fieldsR_ok l he9 X hm
        exact ⟨h5.1, h6.2⟩
      have KSE := Lib.hid (lset_any s (.slice al s.l.length cl) (spN (finR k ver X)) (spT (finR k ver X)) (spS (finR k ver X)) X (.slice xa (fB X).length xc) W2 (Sl.of_own H5.out) (by omega) HXB.out (by omega) hxn.1)
      rw [r1, r2, r3] at KSE
      obtain ⟨SM, hSM⟩ : ∃ SM, SM = setM s r.2.2.1 r.2.2.2.1 X := ⟨_, rfl⟩
      unfold SetP at KSE
      rw [← hSM] at KSE
      have HSM := Lib.hid hSM
      obtain ⟨c0, c1, c2', c3, c4, c5, c6, c7, c8, c9⟩ := mcells h3
      have h10' := Lib.hid h10
      rw [r1] at q5
      rw [r2] at q6
      rw [r3] at q7
      simp only [msgA] at KSE
      clear hok hr r1 r2 r3 hxn hSM h10 h3 h4
      gi_wp2_with fail
      refine (calls_open (open_round _) KSE.out).mono ?_
      rintro e w4 ⟨v4, rfl, ho4, g4⟩
      obtain ⟨a4, n4, rfl⟩ := tx_len (Sl.of_own ho4)
      obtain ⟨wn, hwn⟩ : ∃ wn, wn = w4.alloc (.cells (msgA SM.1 (.slice a4 SM.1.l.length n4)) 29) := ⟨_, rfl⟩
      have gn : Grew w4 wn := by rw [hwn]; exact grew_alloc _ _
      have kn : Blk wn w4.heap.size 29 (msgA SM.1 (.slice a4 SM.1.l.length n4)) := by rw [hwn]; exact Blk.new _ _ _
      have GN := Lib.hid (g4.trans gn)
      have KN := Lib.hid kn
      have HO4 := Lib.hid (own_grew ho4 gn)
      simp only [msgA] at hwn
      have HWN := Lib.hid hwn
      clear c0 c1 c2' c3 c4 c5 c6 c7 c8 c9 q0 q1 q2 q3 q5 q6 q7 q8 gn kn g4 ho4 hwn
      by_cases he : SM.2 ≠ 0
      · have qe : ((SM.2 : Int) != 0) = true := by simp; omega
        have HE2 := Lib.hid he
        clear he
        gi_wp2_with fail
        rw [← HWN.out]
        have hz9 := GN.out.size
        have q9 : wn.cell? ⟨W.heap.size, 4, none⟩ = some (.int .i64 X.2.2.2.2) := (below_ext GN.out) _ _ q4
        have hwl : w2.heap.size + 1 + 1 < W.heap.size := by omega
        refine wpIn_region_held (S := fun V => V.cell? ⟨W.heap.size, 4, none⟩ = some (.int .i64 X.2.2.2.2)) (open_round _) (by kernel_rfl) (by kernel_rfl) q9 (fun hHeld => ?_)
        refine wpAnyH_take (i := 0) (oi := ⟨some 69, _, _, _, _, _⟩) (v := .agg zMsg) rfl (by kernel_rfl) (by kernel_rfl) (by kernel_rfl) (fun _ _ _ h => h) (Or.inl ⟨by rfl, ?_⟩) (by assumption) ?_
        · intro V hV
          go_simp
          try rfl
        simp only [Act.put, List.setIfInBounds_toArray, List.set_cons_zero, List.set_cons_succ]
        refine wpAnyH_take (i := 1) (oi := ⟨some 70, _, _, _, _, _⟩) (v := .int .i64 (SM.2 : Nat)) rfl (by kernel_rfl) (by kernel_rfl) (by kernel_rfl) (fun _ _ _ h => h) (Or.inl ⟨by rfl, ?_⟩) (by assumption) ?_
        · intro V hV
          go_simp
          try rfl
        simp only [Act.put, List.setIfInBounds_toArray, List.set_cons_zero, List.set_cons_succ]
        refine wpAnyH_take (i := 2) (oi := ⟨some 71, _, _, _, _, _⟩) (v := .pointer (some ⟨W.heap.size, 0, none⟩)) rfl (by kernel_rfl) (by kernel_rfl) (by kernel_rfl) (fun _ _ _ h => h) (Or.inl ⟨by rfl, ?_⟩) (by assumption) ?_
        · intro V hV
          go_simp
          try rfl
        simp only [Act.put, List.setIfInBounds_toArray, List.set_cons_zero, List.set_cons_succ]
        refine wpAnyH_take (i := 3) (oi := ⟨some 72, _, _, _, _, _⟩) (v := .pointer (some ⟨W.heap.size, 4, none⟩)) rfl (by kernel_rfl) (by kernel_rfl) (by kernel_rfl) (fun _ _ _ h => h) (Or.inl ⟨by rfl, ?_⟩) (by assumption) ?_
        · intro V hV
          go_simp
          try rfl
        simp only [Act.put, List.setIfInBounds_toArray, List.set_cons_zero, List.set_cons_succ]
        refine wpAnyH_take (i := 4) (oi := ⟨some 73, _, _, _, _, _⟩) (v := .int .i64 X.2.2.2.2) rfl (by kernel_rfl) (by kernel_rfl) (by kernel_rfl) (fun _ _ _ h => h) (Or.inl ⟨by rfl, ?_⟩) (by assumption) ?_
        · intro V hV
          go_simp
          try rfl
        simp only [Act.put, List.setIfInBounds_toArray, List.set_cons_zero, List.set_cons_succ]
        refine wpAnyH_take (i := 5) (oi := ⟨some 74, _, _, _, _, _⟩) (v := .agg #[.int .i64 (SM.2 : Nat), .int .i64 X.2.2.2.2]) rfl (by kernel_rfl) (by kernel_rfl) (by kernel_rfl) (fun _ _ _ h => h) (Or.inl ⟨by rfl, ?_⟩) (by assumption) ?_
        · intro V hV
          go_simp
          try rfl
        simp only [Act.put, List.setIfInBounds_toArray, List.set_cons_zero, List.set_cons_succ]
        refine wpAnyH_ready (rs := [6]) (by kernel_rfl) (by simp) ?_
        refine AllReadyH.cons (o := _) rfl (fun K hK => ?_) AllReadyH.nil
        have B0 := Lib.hid (H0.out.grew GN.out)
        have B1 := Lib.hid (H1.out.grew GN.out)
        have B2 := Lib.hid (H2.out.grew GN.out)
        refine wp_store_row 29 _ _ rfl w.heap.size zMsg rfl rfl 29 _ B0.out.drew (by kernel_rfl) rfl (by simp [zMsg, Value.oneCell']) ?_
        refine hK.out _ _ ((cell_setRow_other _ _ _ _ (by simp; omega)).trans hHeld) (fun h1 => ?_)
        clear hK K hHeld
        simp only [Act.put]
        refine wpAnyH_ready (rs := [7]) (by kernel_rfl) (by simp) ?_
        refine AllReadyH.cons (o := _) rfl (fun K hK => ?_) AllReadyH.nil
        refine wp_store_slice 95 _ _ rfl (w.heap.size + 1) none 0 0 rfl rfl 95 _ (B1.out.drew.rowOther (by omega)) (by kernel_rfl) ?_
        refine hK.out _ _ (cell_set_off h1 _ (by simp; omega)) (fun h2 => ?_)
        clear hK K h1
        simp only [Act.put]
        refine wpAnyH_ready (rs := [8]) (by kernel_rfl) (by simp) ?_
        refine AllReadyH.cons (o := _) rfl (fun K hK => ?_) AllReadyH.nil
        refine wp_store_pair 32 _ _ rfl (w.heap.size + 1 + 1) _ _ rfl rfl 32 _ ((B2.out.drew.rowOther (by omega)).other ⟨w.heap.size + 1, 0, none⟩ _ (by simp)) (by kernel_rfl) rfl rfl rfl ?_
        refine hK.out _ _ ((cell_setRow_other _ _ _ _ (by simp; omega)).trans h2) (fun _ => ?_)
        clear hK K h2
        simp only [Act.put]
        refine wpAnyH_done (by kernel_rfl) ?_ _
        have b0 := B0.out.drew.row zMsg
        have b1 := B1.out.drew.rowOther (b := w.heap.size) (new := zMsg) (by omega)
        have b2 := (B2.out.drew.rowOther (b := w.heap.size) (new := zMsg) (by omega)).other ⟨w.heap.size + 1, 0, none⟩ (.slice none 0 0) (by simp)
        have R0 := Lib.hid ((b0.other ⟨w.heap.size + 1, 0, none⟩ (.slice none 0 0) (by simp)).rowOther (b := w.heap.size + 1 + 1) (new := #[.int .i64 (SM.2 : Nat), .int .i64 X.2.2.2.2]) (by omega))
        have R1 := Lib.hid ((b1.set 0 (.slice none 0 0)).rowOther (b := w.heap.size + 1 + 1) (new := #[.int .i64 (SM.2 : Nat), .int .i64 X.2.2.2.2]) (by omega))
        have R2 := Lib.hid (b2.row #[.int .i64 (SM.2 : Nat), .int .i64 X.2.2.2.2])
        have R3 := Lib.hid (below_setRow (grew_set (below_setRow ((Below.trans H8.out (GN.out.mono H8.out.size)).trans ((Drew.grew ⟨1, rfl⟩ : Grew wn wn.drew).mono (Below.trans H8.out (GN.out.mono H8.out.size)).size)) (Nat.le_refl _) zMsg) (show w.heap.size ≤ w.heap.size + 1 by omega) (j := 0) (.slice none 0 0)) (show w.heap.size ≤ w.heap.size + 1 + 1 by omega) #[.int .i64 (SM.2 : Nat), .int .i64 X.2.2.2.2])
        have R4 := Lib.hid ((((keepsOthers_grew GN.out).trans (KeepsOthers.drew wn)).trans (keepsOthers_row B0.out.drew zMsg)).trans ((KeepsOthers.setCell _ ⟨w.heap.size + 1, 0, none⟩ (.slice none 0 0)).trans (keepsOthers_row b2 #[.int .i64 (SM.2 : Nat), .int .i64 X.2.2.2.2])))
        clear b0 b1 b2
        simp only [onlyN]
        gi_wp2
        refine ⟨R4.out, rfl, SM.2, X.2.2.2.2, HE2.out, Lib.hid ?_, R0.out, R1.out, R2.out, R3.out⟩
        rw [HS.out]
        obtain ⟨t, ht⟩ := HPRE.out
        rw [← ht, List.append_assoc, List.map_append, decF_app _ _ _ _ _ (by rw [H11.out]), H11.out]
        have hst := decF_stop (l := t.map (·.1)) HR.out (m := s) (by rw [← HSM.out]; exact HE2.out)
        rw [← HSM.out] at hst
        exact hst
      · have qe : ((SM.2 : Int) != 0) = false := by simp; omega
        have he2 : SM.2 = 0 := by omega
        have HE2 := Lib.hid he2
        have B3 := Lib.hid (H3.out.grew GN.out)
        have hz9 := GN.out.size
        obtain ⟨c0, c1, c2', c3, c4, c5, c6, c7, c8, c9⟩ := mcells KN.out
        have fz := fun j => B3.out.frozen j
        have f0 := fz 0
        have f1 := fz 1
        have f2 := fz 2
        have f3 := fz 3
        have f4 := fz 4
        have f5 := fz 5
        have f6 := fz 6
        have f7 := fz 7
        have f8 := fz 8
        have f9 := fz 9
        obtain ⟨o0, o1, o2, o3, o4, o5, o6, o7, o8, o9⟩ := mcells B3.out
        rw [HWN.out] at c0 c1 c2' c3 c4 c5 c6 c7 c8 c9 f0 f1 f2 f3 f4 f5 f6 f7 f8 f9 o0 o1 o2 o3 o4 o5 o6 o7 o8 o9
        clear he he2 fz
        gi_wp2
        rw [← HWN.out]
        clear c0 c1 c2' c3 c4 c5 c6 c7 c8 c9 f0 f1 f2 f3 f4 f5 f6 f7 f8 f9 o0 o1 o2 o3 o4 o5 o6 o7 o8 o9
        have hwz := H8.out.size
        have kt : KeepT RdT wn (chainW wn (w2.heap.size + 1) SM.1 (.slice a4 SM.1.l.length n4)) := KeepT.chain (KeepT.refl wn) B3.out (by decide) _ _
        have gB : Below w.heap.size W2 (chainW wn (w2.heap.size + 1) SM.1 (.slice a4 SM.1.l.length n4)) := chain_below (GN.out.mono hwz) (by omega) _ _
        have hsl2 : SM.1.l.length ≤ s.l.length + 1 := by
          have hh : (setM s r.2.2.1 r.2.2.2.1 X).2 = 0 := by rw [← HSM.out]; exact HE2.out
          rw [HSM.out]
          rcases set_parts hh with ⟨-, -, -, q⟩ | ⟨-, -, -, -, q⟩ | ⟨-, -, -, q⟩
          · rw [q]; simp
          · rw [q]; exact Nat.le_succ _
          · rw [q]; exact Nat.le_succ _
        refine ⟨(keepsOthers_grew GN.out).trans (keepsOthers_chain wn _ SM.1 _), ?_, ?_⟩
        · exact ⟨Below.trans HKL.out.1 gB, fun h => ((HKL.out.2.1 h).grew GN.out).keepT kt (by decide) (by decide), fun cs hc => chain_other ((HKL.out.2.2.1 cs hc).grew GN.out) (by omega) _ _, fun cs hc => chain_other ((HKL.out.2.2.2.1 cs hc).grew GN.out) (by omega) _ _, fun cs hc => chain_other ((HKL.out.2.2.2.2 cs hc).grew GN.out) (by omega) _ _⟩
        · refine ⟨SM.1, .slice a4 SM.1.l.length n4, .slice ar nr cr, chain_other (H0.out.grew GN.out) (by omega) _ _, chain_other (H1.out.grew GN.out) (by omega) _ _, chain_other (H2.out.grew GN.out) (by omega) _ _, chain_blk B3.out _ _, chain_other (H4.out.grew GN.out) (by omega) _ _, own_mono (chain_own HO4.out (fun e => by have := (own_lt HO4.out _ e).1; omega) _ _) hwm2, ?_, (H7.out.grew GN.out).keepT kt (by decide) (by decide), Below.trans H8.out gB, Nat.le_trans hwm2 gB.size, HPRE.out, ?_, Lib.hid ?_⟩
          · rw [List.filter_append]
            have e1 : [(X, Value.slice xa (fB X).length xc)].filter (fun p : FFV => !okP k ver p.1) = [] := by simp [HOK.out]
            rw [e1, List.append_nil]
            have h6 := own_grew H6.out GN.out
            exact chain_own h6 (fun e => by have := (own_lt h6 _ e).1; omega) _ _
          · rw [List.length_append]; exact Nat.le_trans hsl2 (Nat.add_le_add_right h10'.out 1)
          · rw [List.map_append, decF_app _ _ _ _ _ (by rw [H11.out]), H11.out]
            have hst := decF_step (l := []) HR.out (m := s) (by rw [← HSM.out]; exact HE2.out)
            rw [← HSM.out] at hst
            exact hst
end Go.Proofs.YtbjoohafgkodcaaGreat
