/- Rows of fields in memory. No statement of the program. ; What turns, told by the types of blocks. No statement of the program. -/
import Derived.Test.YtbjoohafgkodcaaGreatPay
import Derived.Test.YtbjoohafgkodcaaGreatSkB
namespace Go.Proofs.YtbjoohafgkodcaaGreat
open Go Go.RowKit Go.Shelf

/-- blocks of these types stay -/
def KeepT (S : TypeId → Prop) (A B : World) : Prop := A.heap.size ≤ B.heap.size ∧ ∀ (b : Nat) (cs : Array Value) (t : TypeId) (fr : Nat × Nat), S t → A.heap[b]? = some (.cells cs t fr) → B.heap[b]? = some (.cells cs t fr)
theorem KeepT.trans {S : TypeId → Prop} {a b c : World} (h : KeepT S a b) (k : KeepT S b c) : KeepT S a c := ⟨Nat.le_trans h.1 k.1, fun x cs t fr ht hx => k.2 x cs t fr ht (h.2 x cs t fr ht hx)⟩
theorem KeepT.of_grew {S : TypeId → Prop} {a b : World} (h : Grew a b) : KeepT S a b := ⟨h.size, fun x _ _ _ _ hx => (h.block x (Array.getElem?_eq_some_iff.1 hx).1).trans hx⟩
theorem KeepT.ck {S : TypeId → Prop} {n : Nat} {a b c : World} (h : KeepT S a b) (k : CK n b c) : KeepT S a c := ⟨Nat.le_trans h.1 k.size, fun x cs t fr ht hx => k.heap (h.2 x cs t fr ht hx)⟩
theorem KeepT.blk {S : TypeId → Prop} {a b : World} (h : KeepT S a b) {p : Nat} {t : TypeId} {cs : Array Value} (hb : Blk a p t cs) (ht : S t) : Blk b p t cs := h.2 p cs t (0, 0) ht hb
theorem KeepT.own {S : TypeId → Prop} {a b : World} (h : KeepT S a b) {base : Nat} {e : TypeId} {size : Nat} {v : Value} {n : Nat} {xs : List Value} (hr : a.ownsRow base e size v n xs) (ht : S e) : b.ownsRow base e size v n xs := by
  obtain ⟨hl, hr⟩ := hr
  refine ⟨hl, ?_⟩
  rcases hr with hr | ⟨g, cap, cur, rfl, hbg, hg, rest⟩
  · exact .inl hr
  · exact .inr ⟨g, cap, cur, rfl, hbg, h.2 g _ _ _ ht hg, rest⟩
theorem KeepT.set {S : TypeId → Prop} {a b : World} (h : KeepT S a b) {p : Nat} {t : TypeId} {cs : Array Value} (hb : Blk b p t cs) (ht : ¬ S t) (j : Nat) (v : Value) : KeepT S a (b.setCell ⟨p, j, none⟩ v) := by
  refine ⟨by simpa using h.1, fun x xs u fr hu hx => ?_⟩
  have h1 := h.2 x xs u fr hu hx
  have hne : x ≠ p := by
    rintro rfl
    have := (show b.heap[x]? = _ from hb).symm.trans h1
    simp at this
    exact ht (this.2.1 ▸ hu)
  exact (heap_setCell_other b ⟨p, j, none⟩ x v hne).trans h1
theorem KeepT.grown {S : TypeId → Prop} {a b c : World} (h : KeepT S a b) {base : Nat} {e : TypeId} {size : Nat} {v : Value} {n : Nat} {xs : List Value} (hr : b.ownsRow base e size v n xs) (ht : ¬ S e) (hg : b.grownBy c v.ownBlock) : KeepT S a c := by
  refine ⟨Nat.le_trans h.1 hg.size, fun x cs t fr hu hx => ?_⟩
  have h1 := h.2 x cs t fr hu hx
  refine (hg.block x (Array.getElem?_eq_some_iff.1 h1).1 ?_).trans h1
  rcases hr.2 with ⟨rfl, _⟩ | ⟨g, cap, cur, rfl, _, hgb, _⟩
  · simp [Value.ownBlock]
  · intro e'
    obtain rfl : x = g := by simpa [Value.ownBlock] using e'
    rw [h1] at hgb
    simp at hgb
    exact ht (hgb.2.1 ▸ hu)

/-- only blocks of cells of these types may turn, and none below n -/
structure Tch (S : TypeId → Prop) (n : Nat) (A B : World) : Prop where
  below : Below n A B
  keep : ∀ (k : Nat) (o : Obj), A.heap[k]? = some o → (∀ cs t fr, o = .cells cs t fr → ¬ S t) → B.heap[k]? = some o
theorem Tch.refl (S : TypeId → Prop) (n : Nat) (A : World) : Tch S n A A := ⟨Below.refl _ _, fun _ _ h _ => h⟩
theorem Tch.trans {S : TypeId → Prop} {n : Nat} {a b c : World} (h : Tch S n a b) (k : Tch S n b c) : Tch S n a c := ⟨h.below.trans k.below, fun i o hi ho => k.keep i o (h.keep i o hi ho) ho⟩
theorem Tch.of_grew {S : TypeId → Prop} {n : Nat} {a b : World} (h : Grew a b) (hn : n ≤ a.heap.size) : Tch S n a b := ⟨h.mono hn, fun i _ hi _ => (h.block i (Array.getElem?_eq_some_iff.1 hi).1).trans hi⟩
theorem Tch.of_fr {S : TypeId → Prop} {n p : Nat} {a b : World} {t : TypeId} {cs : Array Value} (h : Fr (· = p) a b) (hb : Blk a p t cs) (ht : S t) (hp : n ≤ p) : Tch S n a b := by
  refine ⟨h.below (by have := hb.lt; omega) (fun i e => by omega), fun i o hi ho => ?_⟩
  have hne : i ≠ p := by
    rintro rfl
    have := (show a.heap[i]? = _ from hb).symm.trans hi
    simp at this
    exact ho cs t (0, 0) this.symm ht
  exact (h.block i (Array.getElem?_eq_some_iff.1 hi).1 hne).trans hi
theorem Tch.keeps {S : TypeId → Prop} {n : Nat} {a b : World} (h : Tch S n a b) : KeepsOthers a b := ⟨h.below.size, fun k o hk ho => h.keep k o hk (fun cs t fr e => by subst e; cases ho)⟩
theorem Tch.blk {S : TypeId → Prop} {n : Nat} {a b : World} (h : Tch S n a b) {p : Nat} {t : TypeId} {cs : Array Value} (hb : Blk a p t cs) (ht : ¬ S t) : Blk b p t cs := h.keep p _ hb (fun cs' t' fr e => by cases e; exact ht)
theorem Tch.own {S : TypeId → Prop} {m : Nat} {a b : World} (h : Tch S m a b) {base : Nat} {e : TypeId} {size : Nat} {v : Value} {n : Nat} {xs : List Value} (hr : a.ownsRow base e size v n xs) (ht : ¬ S e) : b.ownsRow base e size v n xs := by
  obtain ⟨hl, hr⟩ := hr
  refine ⟨hl, ?_⟩
  rcases hr with hr | ⟨g, cap, cur, rfl, hbg, hg, rest⟩
  · exact .inl hr
  · exact .inr ⟨g, cap, cur, rfl, hbg, h.keep g _ hg (fun cs' t' fr e => by cases e; exact ht), rest⟩
theorem PayV.tch {S : TypeId → Prop} {m base : Nat} {a b : World} {v : Value} {l : List UInt8} (h : PayV a base v l) (ht : Tch S m a b) (hS : ¬ S 5) : PayV b base v l := by
  refine ⟨?_, fun g e => ⟨(h.2 g e).1, by obtain ⟨cs, hc⟩ := (h.2 g e).2; exact ⟨cs, ht.blk hc hS⟩⟩⟩
  obtain ⟨hl, ad, cap, rfl, h1, h2, h3, h4⟩ := h.1
  refine ⟨hl, ad, cap, rfl, h1, h2, h3, ?_⟩
  rintro x rfl j u hu
  obtain ⟨_, cs, hc⟩ := h.2 x.block rfl
  have hcell := h4 x rfl j u hu
  rw [World.cell?_of_block (w := a) ?_]
  · exact hcell
  · rw [add_block]; exact (ht.blk hc hS).trans hc.symm
theorem PayV.keepT {S : TypeId → Prop} {base : Nat} {a b : World} {v : Value} {l : List UInt8} (h : PayV a base v l) (ht : KeepT S a b) (hS : S 5) : PayV b base v l := by
  refine ⟨?_, fun g e => ⟨(h.2 g e).1, by obtain ⟨cs, hc⟩ := (h.2 g e).2; exact ⟨cs, ht.blk hc hS⟩⟩⟩
  obtain ⟨hl, ad, cap, rfl, h1, h2, h3, h4⟩ := h.1
  refine ⟨hl, ad, cap, rfl, h1, h2, h3, ?_⟩
  rintro x rfl j u hu
  obtain ⟨_, cs, hc⟩ := h.2 x.block rfl
  have hcell := h4 x rfl j u hu
  rw [World.cell?_of_block (w := a) ?_]
  · exact hcell
  · rw [add_block]; exact (ht.blk hc hS).trans hc.symm
end Go.Proofs.YtbjoohafgkodcaaGreat
namespace Go.Proofs.YtbjoohafgkodcaaGreat
open Go Go.RowKit Go.Shelf

/-- a field, and the slice value of its bytes -/
abbrev FFV := Fld × Value
def ffv (p : FFV) : List Value := [.int .i64 p.1.1, .int .u8 (p.1.2.1 : Nat), .int .u64 (p.1.2.2.1 : Nat), p.2, .int .i64 p.1.2.2.2.2]
/-- a field's cells -/
abbrev fldA (x : Fld) (v : Value) : Value := .agg #[.int .i64 x.1, .int .u8 (x.2.1 : Nat), .int .u64 (x.2.2.1 : Nat), v, .int .i64 x.2.2.2.2]
/-- a row of the call's own of fields -/
def FieldsV (W : World) (base : Nat) (v : Value) (ps : List FFV) : Prop := W.ownsRow base 101 5 v ps.length (ps.flatMap ffv) ∧ ∀ p ∈ ps, PayV W base p.2 (fB p.1)
theorem FieldsV.nil (W : World) (base : Nat) : FieldsV W base (.slice none 0 0) [] := ⟨World.ownsRow_nil _ _ _ _, fun p h => by cases h⟩
theorem FieldsV.grew {W W' : World} {base : Nat} {v : Value} {ps : List FFV} (h : FieldsV W base v ps) (g : Grew W W') : FieldsV W' base v ps := ⟨own_grew h.1 g, fun p hp => (h.2 p hp).grew g⟩
theorem FieldsV.mono {W : World} {base base' : Nat} {v : Value} {ps : List FFV} (h : FieldsV W base v ps) (hb : base' ≤ base) : FieldsV W base' v ps := ⟨own_mono h.1 hb, fun p hp => (h.2 p hp).mono hb⟩
theorem FieldsV.ck {n base : Nat} {W W' : World} {v : Value} {ps : List FFV} (h : FieldsV W base v ps) (hc : CK n W W') : FieldsV W' base v ps := ⟨hc.own h.1, fun p hp => (h.2 p hp).ck hc⟩
theorem FieldsV.set {W : World} {base : Nat} {v : Value} {ps : List FFV} (h : FieldsV W base v ps) {b : Nat} {t : TypeId} {cs : Array Value} (hb : Blk W b t cs) (ht : t ≠ 5) (ht2 : t ≠ 101) (j : Nat) (u : Value) : FieldsV (W.setCell ⟨b, j, none⟩ u) base v ps :=
  ⟨own_set h.1 _ _ (fun e => blk_ne_row hb h.1 ht2 e.symm), fun p hp => (h.2 p hp).set hb ht j u⟩
/-- the fields alone -/
def FlO (W : World) (base : Nat) (v : Value) (fs : List Fld) : Prop := ∃ ps : List FFV, ps.map (·.1) = fs ∧ FieldsV W base v ps
theorem FlO.grew {W W' : World} {base : Nat} {v : Value} {fs : List Fld} (h : FlO W base v fs) (g : Grew W W') : FlO W' base v fs := by obtain ⟨ps, e, h⟩ := h; exact ⟨ps, e, h.grew g⟩
theorem FlO.mono {W : World} {base base' : Nat} {v : Value} {fs : List Fld} (h : FlO W base v fs) (hb : base' ≤ base) : FlO W base' v fs := by obtain ⟨ps, e, h⟩ := h; exact ⟨ps, e, h.mono hb⟩
theorem FlO.nil (W : World) (base : Nat) : FlO W base (.slice none 0 0) [] := ⟨[], rfl, FieldsV.nil _ _⟩
theorem info_field : (Tryz.prog.info? 101).map (fun i => (i.zero, i.size, i.bytes)) = some (some (.agg #[.int .i64 0, .int .u8 0, .int .u64 0, .slice none 0 0, .int .i64 0]), 5, 56) := by kernel_rfl
theorem ffv_one (p : FFV) {W : World} {l : List UInt8} (hp : Bs W p.2 l) : ∀ u ∈ ffv p, u.oneCell' = true := by
  obtain ⟨a, n, c, e, _⟩ := bs_shape hp
  intro u hu
  simp only [ffv, List.mem_cons, List.not_mem_nil, or_false] at hu
  rcases hu with rfl | rfl | rfl | rfl | rfl
  · rfl
  · rfl
  · rfl
  · rw [e]; rfl
  · rfl
theorem FieldsV.push {W w' : World} {base : Nat} {v v' : Value} {ps : List FFV} {p : FFV} (h : FieldsV W base v ps) (hp : PayV W base p.2 (fB p.1))
    (h1 : w'.ownsRow base 101 5 v' (ps.length + 1) (ps.flatMap ffv ++ ffv p)) (h2 : W.grownBy w' v.ownBlock) : FieldsV w' base v' (ps ++ [p]) := by
  refine ⟨by rw [List.length_append, List.flatMap_append]; simpa using h1, fun q hq => ?_⟩
  rcases List.mem_append.1 hq with hq | hq
  · exact (h.2 q hq).below h2 (row_ne h.1 (by decide) (h.2 q hq))
  · obtain rfl := List.mem_singleton.1 hq
    exact hp.below h2 (row_ne h.1 (by decide) hp)
theorem wpList_pushFl {W : World} {ops : Array Oper} {rest : List Oper} {o : Oper} {a : Act} {Q : Exit → Act → World → Prop} (hgd : o.guard = none) (s x : Operand)
    (ho : o.op = .call { callee := .builtin .append, args := #[s, x], argTypes := #[95, 95] })
    (base : Nat) (v : Value) (ps : List FFV) (hs : a.eval s = v) (hown : FieldsV W base v ps) (xv : Value) (hx : a.eval x = xv) (p : FFV) (hsl : Sl W xv 1 5 (ffv p)) (hp : PayV W base p.2 (fB p.1))
    (hlen : ps.length + 1 ≤ 1000000000) (hbase : base ≤ W.heap.size)
    (h : ∀ v' w', FieldsV w' base v' (ps ++ [p]) → Below base W w' → W.grownBy w' v.ownBlock → wpList Tryz.prog ops Q rest (a.put o.dst v') w') : wpList Tryz.prog ops Q (o :: rest) a W := by
  obtain ⟨i0, hi, hz0, hz1, hz2⟩ := info_parts info_field
  exact wpList_app hgd s x 95 ho base 101 i0 (.agg #[.int .i64 0, .int .u8 0, .int .u64 0, .slice none 0 0, .int .i64 0]) 5 56 Tryz.underlying95 hi hz0 hz1 hz2 rfl (by decide) v ps.length _ hs hown.1 xv 1 (ffv p) hx hsl (ffv_one p hp.1) (by unfold maxLen; omega) (by omega) hbase
    fun v' w' h1 h2 => h v' w' (hown.push hp h1 h2) (grownBy_below h2 hown.1 hbase) h2
theorem wpListIn_pushFl {F : Fence} {n : Nat} {W : World} {ops : Array Oper} {rest : List Oper} {o : Oper} {a : Act} {Q : Exit → Act → World → Prop} (hgd : o.guard = none) (s x : Operand)
    (ho : o.op = .call { callee := .builtin .append, args := #[s, x], argTypes := #[95, 95] })
    (base : Nat) (v : Value) (ps : List FFV) (hs : a.eval s = v) (hown : FieldsV W base v ps) (xv : Value) (hx : a.eval x = xv) (p : FFV) (hsl : Sl W xv 1 5 (ffv p)) (hp : PayV W base p.2 (fB p.1))
    (hlen : ps.length + 1 ≤ 1000000000) (hbase : base ≤ W.heap.size)
    (h : ∀ v' w', FieldsV w' base v' (ps ++ [p]) → Below base W w' → W.grownBy w' v.ownBlock → wpListIn F n Tryz.prog ops Q rest (a.put o.dst v') w') : wpListIn F n Tryz.prog ops Q (o :: rest) a W := by
  obtain ⟨i0, hi, hz0, hz1, hz2⟩ := info_parts info_field
  exact wpListIn_app hgd s x 95 ho base 101 i0 (.agg #[.int .i64 0, .int .u8 0, .int .u64 0, .slice none 0 0, .int .i64 0]) 5 56 Tryz.underlying95 hi hz0 hz1 hz2 rfl (by decide) v ps.length _ hs hown.1 xv 1 (ffv p) hx hsl (ffv_one p hp.1) (by unfold maxLen; omega) (by omega) hbase
    fun v' w' h1 h2 => h v' w' (hown.push hp h1 h2) (grownBy_below h2 hown.1 hbase) h2
/-- a row of fields that is read -/
def FlR (W : World) (v : Value) (ps : List FFV) : Prop := Sl W v ps.length 5 (ps.flatMap ffv) ∧ ∀ p ∈ ps, Bs W p.2 (fB p.1)
theorem FlR.grew {W W' : World} {v : Value} {ps : List FFV} (h : FlR W v ps) (g : Grew W W') : FlR W' v ps := ⟨h.1.grew g, fun p hp => (h.2 p hp).grew g⟩
theorem FieldsV.flr {W : World} {base : Nat} {v : Value} {ps : List FFV} (h : FieldsV W base v ps) : FlR W v ps := ⟨Sl.of_own h.1, fun p hp => (h.2 p hp).1⟩
def FlRs (W : World) (v : Value) (fs : List Fld) : Prop := ∃ ps : List FFV, ps.map (·.1) = fs ∧ FlR W v ps
theorem FlO.frs {W : World} {base : Nat} {v : Value} {fs : List Fld} (h : FlO W base v fs) : FlRs W v fs := by obtain ⟨ps, e, h⟩ := h; exact ⟨ps, e, h.flr⟩
theorem FlRs.grew {W W' : World} {v : Value} {fs : List Fld} (h : FlRs W v fs) (g : Grew W W') : FlRs W' v fs := by obtain ⟨ps, e, h⟩ := h; exact ⟨ps, e, h.grew g⟩
theorem FlRs.shape {W : World} {v : Value} {fs : List Fld} (h : FlRs W v fs) : ∃ a c, v = .slice a fs.length c := by
  obtain ⟨ps, rfl, h1, -⟩ := h
  obtain ⟨a, c, rfl, -⟩ := h1.open
  exact ⟨a, c, by rw [List.length_map]⟩
/-- the cells of element j, wherever the row lies -/
theorem fl_cells {W : World} {b off : Nat} {n c : Nat} {ps : List FFV} (h : FlR W (.slice (some ⟨b, off, none⟩) n c) ps) (j : Nat) (hj : j < ps.length) :
    W.cell? ⟨b, off + j * 5, none⟩ = some (.int .i64 ps[j].1.1) ∧ W.cell? ⟨b, off + j * 5 + 1, none⟩ = some (.int .u8 (ps[j].1.2.1 : Nat)) ∧ W.cell? ⟨b, off + j * 5 + 2, none⟩ = some (.int .u64 (ps[j].1.2.2.1 : Nat)) ∧
    W.cell? ⟨b, off + j * 5 + 3, none⟩ = some ps[j].2 ∧ W.cell? ⟨b, off + j * 5 + 4, none⟩ = some (.int .i64 ps[j].1.2.2.2.2) ∧ Bs W ps[j].2 (fB ps[j].1) := by
  obtain ⟨a, cap, e, -, -, -, h4⟩ := h.1.open
  cases e
  obtain ⟨b', o', e, hc⟩ := h4 (by omega)
  cases e
  have g := fun i hi => flat_at (f := ffv) (k := 5) (fun _ => rfl) ps j hj i hi
  have g0 := hc (j * 5) _ (g 0 (by omega))
  have g1 := hc (j * 5 + 1) _ (g 1 (by omega))
  have g2 := hc (j * 5 + 2) _ (g 2 (by omega))
  have g3 := hc (j * 5 + 3) _ (g 3 (by omega))
  have g4 := hc (j * 5 + 4) _ (g 4 (by omega))
  simp only [← Nat.add_assoc] at g0 g1 g2 g3 g4
  exact ⟨g0, g1, g2, g3, g4, h.2 _ (List.getElem_mem hj)⟩
theorem loadVar_field (w : World) (b : Nat) (cs : Array Value) (hs : cs.size = 5) (h : Blk w b 101 cs) : (loadVar 101 ⟨b, 0, none⟩).run Tryz.prog w = .ok (.agg cs) w :=
  run_loadVar_row w b _ _ cs (0, 0) _ h Tryz.underlying101 rfl (by rw [hs]; kernel_rfl)
/-- the five cells of a block -/
theorem cells5 {w : World} {b : Nat} {t : TypeId} {x0 x1 x2 x3 x4 : Value} (h : Blk w b t #[x0, x1, x2, x3, x4]) :
    w.cell? ⟨b, 0, none⟩ = some x0 ∧ w.cell? ⟨b, 1, none⟩ = some x1 ∧ w.cell? ⟨b, 2, none⟩ = some x2 ∧ w.cell? ⟨b, 3, none⟩ = some x3 ∧ w.cell? ⟨b, 4, none⟩ = some x4 ∧
    w.frozen? ⟨b, 0, none⟩ = false ∧ w.frozen? ⟨b, 1, none⟩ = false ∧ w.frozen? ⟨b, 2, none⟩ = false ∧ w.frozen? ⟨b, 3, none⟩ = false ∧ w.frozen? ⟨b, 4, none⟩ = false := by
  refine ⟨?_, ?_, ?_, ?_, ?_, h.frozen 0, h.frozen 1, h.frozen 2, h.frozen 3, h.frozen 4⟩
  · have := h.cell 0; simpa using this
  · have := h.cell 1; simpa using this
  · have := h.cell 2; simpa using this
  · have := h.cell 3; simpa using this
  · have := h.cell 4; simpa using this
theorem Sl.blk_lt {w : World} {v : Value} {n k : Nat} {cs : List Value} (h : Sl w v n k cs) : ∀ g, Value.blk v = some g → cs ≠ [] → g < w.heap.size := by
  rintro g hg hc
  obtain ⟨hl, a, cap, rfl, h1, h2, h3, h4⟩ := h
  cases a with
  | none => cases hg
  | some ad =>
    cases hg
    cases cs with
    | nil => exact absurd rfl hc
    | cons u cs =>
      have := cell_lt (h4 ad rfl 0 u rfl)
      rwa [add_block] at this
/-- a reader's slice value by its name -/
theorem InS.fix {K : Value → Prop} {t : TypeId} {w : World} {p : Nat} {l : List UInt8} {a : Nat} (h : InS t K w p l a) : ∃ v, K v ∧ Bs w v l ∧ InS t (· = v) w p l a := by
  obtain ⟨v, h1, h2, h3, h4⟩ := h
  exact ⟨v, h4, h2, v, h1, h2, h3, rfl⟩
theorem InS.loose {K : Value → Prop} {t : TypeId} {w : World} {p : Nat} {l : List UInt8} {a : Nat} {v : Value} (h : InS t (· = v) w p l a) (hk : K v) : InS t K w p l a := by
  obtain ⟨_, h1, h2, h3, rfl⟩ := h
  exact ⟨_, h1, h2, h3, hk⟩
/-- blocks turn that are younger than its bytes -/
theorem InS.fresh {S : Nat → Prop} {t : TypeId} {w W W' : World} {p : Nat} {l : List UInt8} {a : Nat} {v : Value} (hv : Bs w v l) (h : InS t (· = v) W p l a) (hf : Fr S W W') (hp : ¬ S p) (hS : ∀ k, S k → w.heap.size ≤ k) : InS t (· = v) W' p l a := by
  obtain ⟨_, h1, h2, h3, rfl⟩ := h
  exact ⟨_, h1.fr hf hp, h2.fr hf (fun g hg hc hs => by have := hv.blk_lt g hg hc; have := hS g hs; omega), h3, rfl⟩
theorem FieldsV.tch {S : TypeId → Prop} {m base : Nat} {W W' : World} {v : Value} {ps : List FFV} (h : FieldsV W base v ps) (ht : Tch S m W W') (h1 : ¬ S 5) (h2 : ¬ S 101) : FieldsV W' base v ps := ⟨ht.own h.1 h2, fun p hp => (h.2 p hp).tch ht h1⟩
/-- where a reader is -/
def offOf (w : World) (p : Nat) : Nat := match w.cell? ⟨p, 1, none⟩ with
  | some (.int _ z) => z.toNat
  | _ => 0
theorem offOf_in {K : Value → Prop} {t : TypeId} {w : World} {p : Nat} {l : List UInt8} {a : Nat} (h : InS t K w p l a) : offOf w p = a := by
  obtain ⟨v, hb, -⟩ := h
  have := hb.cell 1
  unfold offOf
  rw [this]
  simp
end Go.Proofs.YtbjoohafgkodcaaGreat
