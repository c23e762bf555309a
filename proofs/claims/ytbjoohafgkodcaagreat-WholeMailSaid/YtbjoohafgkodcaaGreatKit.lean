/- Small lemmas on worlds, rows of cells and range-over-func loops that the texts of this claim share: no statement of the program. -/
import Derived.RangeFuncNested
import Derived.RangeFuncBound
import Derived.RangeFuncCalls
import Derived.RangeFuncLeaves
import Derived.Shelf.Abstract
import Derived.Shelf.RegionOpen
import Derived.WalkKit
import Derived.WalkSpells
import Derived.WalkLawsBesides
import Derived.OwnWalkIn
import Derived.TacticsInMore
import Derived.LoopNIn
import Derived.LoopIn
import Derived.Maps.AppendAt
import Derived.Laws.AppendOwnNone
import Derived.Lib.Hide
import Derived.Deep.Cut
import Derived.Lib.SlBytesConst
import Derived.StillTailTactics
import Derived.OrdersIn
import Derived.Deep.WholeRow
import Derived.Laws.CopyOwn
import Derived.BigQuiet
import Derived.Deep.RegionHeld3
import Derived.Deep.QuietTactic
namespace Go.Proofs.YtbjoohafgkodcaaGreat
open Go Go.RowKit Go.Shelf

@[simp, go_sem] theorem wide_fn (f : FuncId) : Fence.wide.fn f = True := rfl
@[simp, go_sem] theorem wide_depth : Fence.wide.depth = none := rfl
@[simp, go_sem] theorem wide_round : Fence.wide.round = none := rfl
attribute [go_sem] Fence.inRound_fn Fence.inRound_depth Fence.inRound_round

/-! ## worlds -/
/-- every cell stays what it is -/
def Ext (w w' : World) : Prop := ∀ a u, w.cell? a = some u → w'.cell? a = some u
theorem cell_lt {w : World} {a : Addr} {u : Value} (h : w.cell? a = some u) : a.block < w.heap.size := by
  unfold World.cell? at h
  cases ho : w.heap[a.block]? with
  | none => rw [ho] at h; cases h
  | some o => exact (Array.getElem?_eq_some_iff.1 ho).1
theorem below_ext {w w' : World} (h : Below w.heap.size w w') : Ext w w' := fun _ _ hu => (h.cell (cell_lt hu)).trans hu
theorem Ext.refl (w : World) : Ext w w := fun _ _ h => h
theorem Ext.trans {a b c : World} (h : Ext a b) (k : Ext b c) : Ext a c := fun _ _ hu => k _ _ (h _ _ hu)

/-- 'b' existed in 'w', and everything that existed is as it was -/
abbrev Grew (w w' : World) : Prop := Below w.heap.size w w'
theorem Grew.trans {a b c : World} (h : Grew a b) (k : Grew b c) : Grew a c := Below.trans h (Below.mono k h.size)
theorem Grew.down {n : Nat} {a b c : World} (h : Below n a b) (k : Grew b c) (hn : n ≤ b.heap.size) : Below n a c := Below.trans h (Below.mono k hn)

/-- the world behind a call that only reads: some draws -/
abbrev Drew (w w' : World) : Prop := ∃ n, w' = w.drewN n
theorem Drew.refl (w : World) : Drew w w := ⟨0, rfl⟩
theorem Drew.more {a b : World} (h : Drew a b) (n : Nat) : Drew a (b.drewN n) := by obtain ⟨m, rfl⟩ := h; exact ⟨m + n, by rw [World.drewN_drewN]⟩
theorem Drew.grew {a b : World} (h : Drew a b) : Grew a b := by obtain ⟨m, rfl⟩ := h; exact ⟨rfl, rfl, rfl, Nat.le_refl _, fun _ _ => rfl⟩
theorem ret_bool {a b : Bool} (h : a = b) : Ending.returned (.bool a) = .returned (.bool b) := by rw [h]
theorem ret_int {k : IntKind} {a b : Int} (h : a = b) : Ending.returned (.int k a) = .returned (.int k b) := by rw [h]

theorem quiet_eq {P : Program} {f : FuncId} {args : Array Value} {w : World} {n : Nat} {v : Value}
    (h : Calls P f args (w.drewN n) fun e w' => e = .returned v ∧ w.drewN n = w') : Calls P f args (w.drewN n) fun e w'' => e = .returned v ∧ ∃ m, w'' = w.drewN m :=
  h.mono fun _ _ ⟨he, hm⟩ => ⟨he, n, hm.symm⟩
theorem quiet_drew {P : Program} {f : FuncId} {args : Array Value} {w : World} {n : Nat} {v : Value}
    (h : Calls P f args (w.drewN n) fun e w' => e = .returned v ∧ Drew (w.drewN n) w') : Calls P f args (w.drewN n) fun e w'' => e = .returned v ∧ ∃ m, w'' = w.drewN m :=
  h.mono fun _ _ ⟨he, m, hm⟩ => ⟨he, n + m, by rw [hm, World.drewN_drewN]⟩

/-- .. in a world that has drawn before -/
theorem quiet_eq2 {P : Program} {f : FuncId} {args : Array Value} {w : World} {a n : Nat} {v : Value}
    (h : Calls P f args (w.drewN (a + n)) fun e w' => e = .returned v ∧ w.drewN (a + n) = w') : Calls P f args (w.drewN (a + n)) fun e w'' => e = .returned v ∧ ∃ m, w'' = w.drewN (a + m) :=
  h.mono fun _ _ ⟨he, hm⟩ => ⟨he, n, hm.symm⟩
theorem quiet_drew2 {P : Program} {f : FuncId} {args : Array Value} {w : World} {a n : Nat} {v : Value}
    (h : Calls P f args (w.drewN (a + n)) fun e w' => e = .returned v ∧ Drew (w.drewN (a + n)) w') : Calls P f args (w.drewN (a + n)) fun e w'' => e = .returned v ∧ ∃ m, w'' = w.drewN (a + m) :=
  h.mono fun _ _ ⟨he, m, hm⟩ => ⟨he, n + m, by rw [hm, World.drewN_drewN, Nat.add_assoc]⟩

/-! ## slices that are read -/
/-- the slice value v has n elements of k cells; its cells are cs -/
def Sl (w : World) (v : Value) (n k : Nat) (cs : List Value) : Prop :=
  cs.length = n * k ∧ ∃ a cap, v = .slice a n cap ∧ n ≤ cap ∧ cap ≤ maxLen ∧ (a = none → cap = 0) ∧
    ∀ ad, a = some ad → ∀ j u, cs[j]? = some u → w.cell? (ad.add j) = some u

theorem Sl.ext {w w' : World} {v : Value} {n k : Nat} {cs : List Value} (h : Sl w v n k cs) (e : Ext w w') : Sl w' v n k cs := by
  obtain ⟨hl, a, cap, hv, h1, h2, h3, h4⟩ := h
  exact ⟨hl, a, cap, hv, h1, h2, h3, fun ad ha j u hu => e _ _ (h4 ad ha j u hu)⟩
theorem Sl.grew {w w' : World} {v : Value} {n k : Nat} {cs : List Value} (h : Sl w v n k cs) (e : Grew w w') : Sl w' v n k cs := h.ext (below_ext e)
theorem Sl.nil (w : World) (k : Nat) : Sl w (.slice none 0 0) 0 k [] :=
  ⟨by simp, none, 0, rfl, Nat.le_refl _, Nat.zero_le _, fun _ => rfl, fun _ h => by cases h⟩
theorem Sl.of_own {w : World} {base : Nat} {e : TypeId} {size : Nat} {v : Value} {n : Nat} {xs : List Value} (h : w.ownsRow base e size v n xs) : Sl w v n size xs := by
  obtain ⟨hl, h⟩ := h
  rcases h with ⟨rfl, rfl⟩ | ⟨g, cap, cur, rfl, hb, hg, hn, hc, hs, ht⟩
  · have : xs = [] := List.eq_nil_of_length_eq_zero (by simpa using hl)
    subst this
    exact Sl.nil w size
  · refine ⟨hl, _, cap, rfl, hn, hc, (fun h => by cases h), ?_⟩
    rintro ad had j u hu
    cases had
    rw [← ht] at hu
    have hj : j < n * size := by
      have := (List.getElem?_eq_some_iff.1 hu).1
      simp at this; omega
    rw [Addr.add_lit]
    simp only [World.cell?, hg, Nat.zero_add, Option.isSome_none, Bool.false_eq_true, if_false]
    rw [List.getElem?_take_of_lt hj] at hu
    simpa using hu
/-- the two shapes of a slice value that is read -/
theorem Sl.shape {w : World} {v : Value} {n k : Nat} {cs : List Value} (h : Sl w v n k cs) :
    (v = .slice none 0 0 ∧ n = 0 ∧ cs = []) ∨ ∃ ad cap, v = .slice (some ad) n cap ∧ n ≤ cap ∧ cap ≤ maxLen ∧ cs.length = n * k ∧ ∀ j u, cs[j]? = some u → w.cell? (ad.add j) = some u := by
  obtain ⟨hl, a, cap, rfl, h1, h2, h3, h4⟩ := h
  cases a with
  | none =>
    have hc := h3 rfl
    subst hc
    obtain rfl : n = 0 := by omega
    exact .inl ⟨rfl, rfl, List.eq_nil_of_length_eq_zero (by simpa using hl)⟩
  | some ad => exact .inr ⟨ad, cap, rfl, h1, h2, hl, h4 _ rfl⟩

/-- a slice value that is read, opened for a walk: the address stays a variable -/
theorem Sl.open {w : World} {v : Value} {n k : Nat} {cs : List Value} (h : Sl w v n k cs) :
    ∃ a cap, v = .slice a n cap ∧ n ≤ cap ∧ cap ≤ maxLen ∧ cs.length = n * k ∧ (0 < n * k → ∃ b off, a = some ⟨b, off, none⟩ ∧ ∀ j u, cs[j]? = some u → w.cell? ⟨b, off + j, none⟩ = some u) := by
  obtain ⟨hl, a, cap, rfl, h1, h2, h3, h4⟩ := h
  refine ⟨a, cap, rfl, h1, h2, hl, fun hn => ?_⟩
  cases a with
  | none =>
    have := h3 rfl
    have h0 : n = 0 := by omega
    subst h0
    simp at hn
  | some ad =>
    obtain ⟨b, off, sp⟩ := ad
    have h0 : cs[0]? = some cs[0] := List.getElem?_eq_getElem (by omega)
    have hc := h4 _ rfl 0 _ h0
    have e : sp = none := by simpa [Addr.add] using World.cell?_spot hc
    subst e
    exact ⟨b, off, rfl, fun j u hu => by rw [← Addr.add_lit]; exact h4 _ rfl j u hu⟩

/-- v[:m] -/
theorem Sl.take {w : World} {a : Option Addr} {n c k : Nat} {cs : List Value} (h : Sl w (.slice a n c) n k cs) (m : Nat) (hm : m ≤ n) : Sl w (.slice a m c) m k (cs.take (m * k)) := by
  obtain ⟨hl, a', cap, e, h1, h2, h3, h4⟩ := h
  cases e
  refine ⟨?_, a, c, rfl, by omega, h2, h3, fun ad ha j u hu => h4 ad ha j u ?_⟩
  · rw [List.length_take, hl]; exact Nat.min_eq_left (Nat.mul_le_mul_right k hm)
  · rw [List.getElem?_take] at hu
    split at hu
    · exact hu
    · cases hu

/-! ## rows that the call owns -/
theorem own_lt {w : World} {base : Nat} {e : TypeId} {size : Nat} {v : Value} {n : Nat} {xs : List Value} (h : w.ownsRow base e size v n xs) : ∀ g, v.ownBlock = some g → base ≤ g ∧ g < w.heap.size := by
  intro g hg
  rcases h.2 with ⟨rfl, _⟩ | ⟨g', cap, cur, rfl, hb, hh, _⟩
  · cases hg
  · cases hg; exact ⟨hb, (Array.getElem?_eq_some_iff.1 hh).1⟩
theorem own_grew {w w' : World} {base : Nat} {e : TypeId} {size : Nat} {v : Value} {n : Nat} {xs : List Value} (h : w.ownsRow base e size v n xs) (hb : Grew w w') : w'.ownsRow base e size v n xs := by
  obtain ⟨hl, h⟩ := h
  refine ⟨hl, ?_⟩
  rcases h with h | ⟨g, cap, cur, hv, hbg, hg, rest⟩
  · exact .inl h
  · exact .inr ⟨g, cap, cur, hv, hbg, (hb.block g (Array.getElem?_eq_some_iff.1 hg).1).trans hg, rest⟩
theorem own_mono {w : World} {base base' : Nat} {e : TypeId} {size : Nat} {v : Value} {n : Nat} {xs : List Value} (h : w.ownsRow base e size v n xs) (hb : base' ≤ base) : w.ownsRow base' e size v n xs := by
  obtain ⟨hl, h⟩ := h
  refine ⟨hl, ?_⟩
  rcases h with h | ⟨g, cap, cur, hv, hbg, rest⟩
  · exact .inl h
  · exact .inr ⟨g, cap, cur, hv, by omega, rest⟩
theorem own_block {w w' : World} {base : Nat} {e : TypeId} {size : Nat} {v : Value} {n : Nat} {xs : List Value} (h : w.ownsRow base e size v n xs) (hb : ∀ g, v.ownBlock = some g → w'.heap[g]? = w.heap[g]?) : w'.ownsRow base e size v n xs := by
  obtain ⟨hl, h⟩ := h
  refine ⟨hl, ?_⟩
  rcases h with h | ⟨g, cap, cur, rfl, hbg, hg, rest⟩
  · exact .inl h
  · exact .inr ⟨g, cap, cur, rfl, hbg, (hb g rfl).trans hg, rest⟩

/-! ## whole blocks -/
/-- block b holds just these cells -/
def Blk (w : World) (b : Nat) (t : TypeId) (cs : Array Value) : Prop := w.heap[b]? = some (.cells cs t (0, 0))
theorem Blk.lt {w : World} {b : Nat} {t : TypeId} {cs : Array Value} (h : Blk w b t cs) : b < w.heap.size := (Array.getElem?_eq_some_iff.1 h).1
theorem Blk.new (w : World) (t : TypeId) (cs : Array Value) : Blk (w.alloc (.cells cs t)) w.heap.size t cs := World.alloc_heap_new w _
theorem Blk.new2 (w : World) (o : Obj) (t : TypeId) (cs : Array Value) : Blk ((w.alloc o).alloc (.cells cs t)) (w.heap.size + 1) t cs := heap_alloc2_new w o _
theorem Blk.at {w : World} {b : Nat} {t : TypeId} {cs : Array Value} (h : b = w.heap.size) : Blk (w.alloc (.cells cs t)) b t cs := h ▸ Blk.new w t cs
theorem Blk.row {w : World} {b : Nat} {t : TypeId} {cs : Array Value} (h : Blk w b t cs) (new : Array Value) : Blk (w.setRow b new) b t new := setRow_heap w b cs new t (0, 0) h
theorem Blk.cell {w : World} {b : Nat} {t : TypeId} {cs : Array Value} (h : Blk w b t cs) (j : Nat) : w.cell? ⟨b, j, none⟩ = cs[j]? := cell_of_row w b j cs t (0, 0) h
theorem Blk.frozen {w : World} {b : Nat} {t : TypeId} {cs : Array Value} (h : Blk w b t cs) (j : Nat) : w.frozen? ⟨b, j, none⟩ = false := frozen_of_row w b j cs t h
theorem Blk.set {w : World} {b : Nat} {t : TypeId} {cs : Array Value} (h : Blk w b t cs) (j : Nat) (v : Value) : Blk (w.setCell ⟨b, j, none⟩ v) b t (cs.setIfInBounds j v) := heap_setCell_same w b j cs t v h
theorem Blk.other {w : World} {b : Nat} {t : TypeId} {cs : Array Value} (h : Blk w b t cs) (a : Addr) (v : Value) (hb : b ≠ a.block) : Blk (w.setCell a v) b t cs := (heap_setCell_other w a b v hb).trans h
theorem Blk.grew {w w' : World} {b : Nat} {t : TypeId} {cs : Array Value} (h : Blk w b t cs) (hg : Grew w w') : Blk w' b t cs := (hg.block b h.lt).trans h
theorem Blk.alloc {w : World} {b : Nat} {t : TypeId} {cs : Array Value} (h : Blk w b t cs) (o : Obj) : Blk (w.alloc o) b t cs := h.grew ((Below.refl _ _).alloc (Nat.le_refl _) _)
theorem Blk.below {n : Nat} {w w' : World} {b : Nat} {t : TypeId} {cs : Array Value} (h : Blk w b t cs) (hg : Below n w w') (hb : b < n) : Blk w' b t cs := (hg.block b hb).trans h
theorem Blk.kept {w w' : World} {b : Nat} {t : TypeId} {cs : Array Value} {row : Option Nat} (h : Blk w b t cs) (hg : w.grownBy w' row) (hne : some b ≠ row) : Blk w' b t cs := (hg.block b h.lt hne).trans h
theorem Blk.drew {w : World} {b : Nat} {t : TypeId} {cs : Array Value} (h : Blk w b t cs) : Blk w.drew b t cs := h
theorem Blk.drewN {w : World} {b : Nat} {t : TypeId} {cs : Array Value} (h : Blk w b t cs) (n : Nat) : Blk (w.drewN n) b t cs := h.grew (Drew.grew ⟨n, rfl⟩)
theorem grew_set {w w' : World} {n : Nat} (h : Below n w w') {b j : Nat} (hb : n ≤ b) (v : Value) : Below n w (w'.setCell ⟨b, j, none⟩ v) := h.setCell (p := ⟨b, j, none⟩) hb v
theorem own_set {w : World} {base : Nat} {e : TypeId} {size : Nat} {v : Value} {n : Nat} {xs : List Value} (h : w.ownsRow base e size v n xs) (a : Addr) (u : Value) (hne : v.ownBlock ≠ some a.block) : (w.setCell a u).ownsRow base e size v n xs :=
  own_block h fun g hg => heap_setCell_other w a g u (fun e => hne (by rw [hg, e]))

/-- a struct or an array built out of parts, where one knows what comes out -/
theorem wpList_build_to {P : Program} {ops : Array Oper} {rest : List Oper} {o : Oper} {a : Act} {w : World} {Q : Exit → Act → World → Prop} (hg : o.guard = none) (t : TypeId) (parts : Array (Nat × Operand)) (ho : o.op = .build t parts)
    (cs : Array Value) (hf : P.built t (parts.map fun (i, x) => (i, a.eval x)).toList = some cs) (h : wpList P ops Q rest (a.put o.dst (.agg cs)) w) : wpList P ops Q (o :: rest) a w :=
  wpList_build hg t parts ho (by rw [hf]; rfl) (by rw [hf]; exact h)

/-- many literals, one behind the other -/
def runBuilds (P : Program) : List Oper → Act → Option Act
  | [], a => some a
  | o :: rest, a =>
    match o.op, o.guard with
    | .build t parts, none =>
      match P.built t (parts.map fun (i, x) => (i, a.eval x)).toList with
      | some cs => runBuilds P rest (a.put o.dst (.agg cs))
      | none => none
    | _, _ => none
theorem wpList_builds {P : Program} {ops : Array Oper} {w : World} {Q : Exit → Act → World → Prop} {rest : List Oper} {a' : Act} : ∀ (l : List Oper) (a : Act), runBuilds P l a = some a' → wpList P ops Q rest a' w → wpList P ops Q (l ++ rest) a w := by
  intro l
  induction l with
  | nil => intro a h hk; cases h; exact hk
  | cons o l ih =>
    intro a h hk
    unfold runBuilds at h
    split at h
    · rename_i t parts ho hg
      split at h
      · rename_i cs hb
        exact wpList_build_to hg t parts ho cs hb (ih _ h hk)
      · cases h
    · cases h
theorem wpList_builds_n {P : Program} {ops : Array Oper} {w : World} {Q : Exit → Act → World → Prop} {l : List Oper} {a : Act} (n m : Nat) (_ : l.length = m) (a' : Act) (h : runBuilds P (l.take n) a = some a') (hk : wpList P ops Q (l.drop n) a' w) : wpList P ops Q l a w := by
  have := wpList_builds (l.take n) a h hk
  rwa [List.take_append_drop] at this

/-- append to a row of the call's own, from whatever slice -/
theorem wpList_app {P : Program} {w : World} {ops : Array Oper} {rest : List Oper} {o : Oper} {a : Act} {Q : Exit → Act → World → Prop} (hgd : o.guard = none) (s x : Operand) (t : TypeId)
    (ho : o.op = .call { callee := .builtin .append, args := #[s, x], argTypes := #[t, t] })
    (base : Nat) (e : TypeId) (i : TypeInfo) (z : Value) (size bytes : Nat) (ht : P.underlying t = some (.slice e)) (hi : P.info? e = some i) (hz : i.zero = some z)
    (hsize : i.size = size) (hby : i.bytes = bytes) (hzs : z.cells.size = size) (hsz : 0 < size)
    (v : Value) (n : Nat) (xs : List Value) (hs : a.eval s = v) (hown : w.ownsRow base e size v n xs)
    (xv : Value) (m : Nat) (news : List Value) (hx : a.eval x = xv) (hsl : Sl w xv m size news) (h1 : ∀ u ∈ news, u.oneCell' = true)
    (h63 : n + m ≤ maxLen) (hbytes : (n + m) * bytes ≤ 140737488355328) (hbase : base ≤ w.heap.size)
    (h : ∀ v' w', w'.ownsRow base e size v' (n + m) (xs ++ news) → w.grownBy w' v.ownBlock → wpList P ops Q rest (a.put o.dst v') w') : wpList P ops Q (o :: rest) a w := by
  rcases hsl.shape with ⟨rfl, rfl, rfl⟩ | ⟨ad, cap, rfl, _, _, hl, hc⟩
  · exact wpList_append_own_none hgd s x t ho base e i size ht hi v n xs hs hown hx (by simpa using h v w (by simpa using hown) (World.grownBy.refl _ _))
  · exact wpList_append_own w hgd s x t ho base e i z size bytes ht hi hz hsize hby hzs hsz v n xs hs hown ad m cap news hx hl hc h1 h63 hbytes hbase fun v' w' h2 h3 _ => h v' w' h2 h3

/-- .. within a fence -/
theorem wpListIn_app {F : Fence} {m : Nat} {P : Program} {w : World} {ops : Array Oper} {rest : List Oper} {o : Oper} {a : Act} {Q : Exit → Act → World → Prop} (hgd : o.guard = none) (s x : Operand) (t : TypeId)
    (ho : o.op = .call { callee := .builtin .append, args := #[s, x], argTypes := #[t, t] })
    (base : Nat) (e : TypeId) (i : TypeInfo) (z : Value) (size bytes : Nat) (ht : P.underlying t = some (.slice e)) (hi : P.info? e = some i) (hz : i.zero = some z)
    (hsize : i.size = size) (hby : i.bytes = bytes) (hzs : z.cells.size = size) (hsz : 0 < size)
    (v : Value) (n : Nat) (xs : List Value) (hs : a.eval s = v) (hown : w.ownsRow base e size v n xs)
    (xv : Value) (k : Nat) (news : List Value) (hx : a.eval x = xv) (hsl : Sl w xv k size news) (h1 : ∀ u ∈ news, u.oneCell' = true)
    (h63 : n + k ≤ maxLen) (hbytes : (n + k) * bytes ≤ 140737488355328) (hbase : base ≤ w.heap.size)
    (h : ∀ v' w', w'.ownsRow base e size v' (n + k) (xs ++ news) → w.grownBy w' v.ownBlock → wpListIn F m P ops Q rest (a.put o.dst v') w') : wpListIn F m P ops Q (o :: rest) a w := by
  rcases hsl.shape with ⟨rfl, rfl, rfl⟩ | ⟨ad, cap, rfl, _, _, hl, hc⟩
  · refine wpListIn_plain hgd fun K hK' => ?_
    have hrun := run_append_owned_none (P := P) (w := w) base t o.type e i size ht hi v n xs hown
    unfold Oper.wpIn
    refine ⟨?_, ?_⟩
    · simp [Oper.about, ho, resolve, Target.leads, Sem.run_pure]
    · rw [Oper.semAt_plain F _ _ (by rw [ho]; intro c hc'; cases hc')]
      simp [execOp, ho, resolve, invoke, builtin, hs, hx, hrun, Result.andThen]
      exact hK' _ _ (h v w (by simpa using hown) (World.grownBy.refl _ _))
  · exact wpListIn_append_own w hgd s x t ho base e i z size bytes ht hi hz hsize hby hzs hsz v n xs hs hown ad k cap news hx hl hc h1 h63 hbytes hbase fun v' w' h2 h3 _ => h v' w' h2 h3
theorem blk_ne_row {w : World} {b : Nat} {t : TypeId} {cs : Array Value} (h : Blk w b t cs) {base : Nat} {e : TypeId} {size : Nat} {v : Value} {n : Nat} {xs : List Value} (hr : w.ownsRow base e size v n xs) (hte : t ≠ e) : some b ≠ v.ownBlock := by
  rcases hr.2 with ⟨rfl, _⟩ | ⟨g, cap, cur, rfl, _, hg, _⟩
  · simp [Value.ownBlock]
  · intro e'
    obtain rfl : b = g := by simpa [Value.ownBlock] using e'
    have := (show w.heap[b]? = _ from h).symm.trans hg
    simp at this
    exact hte this.2
theorem keepsOthers_grew {w w' : World} (h : Grew w w') : KeepsOthers w w' := ⟨h.size, fun k _ hk _ => (h.block k (Array.getElem?_eq_some_iff.1 hk).1).trans hk⟩
theorem keepsOthers_app {w w' : World} {base : Nat} {e : TypeId} {size : Nat} {v : Value} {n : Nat} {xs : List Value} (hr : w.ownsRow base e size v n xs) (hg : w.grownBy w' v.ownBlock) : KeepsOthers w w' :=
  KeepsOthers.of_grownBy hg fun j o ej hj => by
    rcases hr.2 with ⟨rfl, _⟩ | ⟨g, cap, cur, rfl, _, hgb, _⟩
    · simp [Value.ownBlock] at ej
    · obtain rfl : g = j := by simpa [Value.ownBlock] using ej
      rw [hgb] at hj; cases hj; rfl

/-- what a walk knows of a world behind an append: below 'base' it is as it was; other owned rows too -/
theorem grownBy_below {w w' : World} {base : Nat} {e : TypeId} {size : Nat} {v : Value} {n : Nat} {xs : List Value} (hg : w.grownBy w' v.ownBlock) (h : w.ownsRow base e size v n xs) (hb : base ≤ w.heap.size) : Below base w w' :=
  (Below.refl base w).grown hg hb (fun k hk => (own_lt h k hk).1)

theorem Sl.lit (w : World) (e : TypeId) (fr : Nat × Nat) (cs : Array Value) (n k : Nat) (hs : cs.size = n * k) (hn : n ≤ maxLen) : Sl (w.alloc (.cells cs e fr)) (.slice (some ⟨w.heap.size, 0, none⟩) n n) n k cs.toList := by
  refine ⟨by rw [Array.length_toList, hs], _, n, rfl, Nat.le_refl _, hn, (fun h => by cases h), ?_⟩
  rintro ad had j u hu
  cases had
  rw [Addr.add_lit]
  have hh := World.alloc_heap_new w (.cells cs e fr)
  simp only [World.cell?, hh, Nat.zero_add, Option.isSome_none, Bool.false_eq_true, if_false]
  rw [← hu, Array.getElem?_toList]
theorem Sl.one (w : World) (u : Value) (e : TypeId) (hu : u.cells = #[u]) : Sl (w.alloc (.cells u.cells e)) (.slice (some ⟨w.heap.size, 0, none⟩) 1 1) 1 1 [u] := by
  refine ⟨rfl, _, 1, rfl, Nat.le_refl _, by unfold maxLen; omega, (fun h => by cases h), ?_⟩
  rintro ad had j x hx
  cases had
  rw [Addr.add_lit]
  obtain rfl : j = 0 := by
    have := (List.getElem?_eq_some_iff.1 hx).1
    simp at this; omega
  cases hx
  have hh := World.alloc_heap_new w (.cells u.cells e)
  simp only [World.cell?, hh]
  simp [hu]
theorem Sl.drew {w : World} {v : Value} {n k : Nat} {cs : List Value} (h : Sl w v n k cs) (m : Nat) : Sl (w.drewN m) v n k cs := h.ext (below_ext (Drew.grew ⟨m, rfl⟩))

/-! ## results that lie in cells -/
theorem results_c {P : Program} {fn : Func} {p : Tmp} {t1 : TypeId} (h : fn.results = #[.cell p t1]) (tmps : Array Value) (w : World) (a1 : Addr) (v1 : Value)
    (h1 : tmps.getD p undef = .pointer (some a1)) (l1 : (loadVar t1 a1).run P w = .ok v1 w) : (results fn tmps).run P w = .ok v1 w := by
  have h1' : tmps[p]?.getD undef = .pointer (some a1) := by simpa using h1
  simp [results, h, h1', asAddr, l1]
theorem results_tc {P : Program} {fn : Func} {p u : Tmp} {t1 : TypeId} (h : fn.results = #[.tmp u, .cell p t1]) (tmps : Array Value) (w : World) (a1 : Addr) (v1 v2 : Value)
    (h2 : tmps.getD u undef = v2) (h1 : tmps.getD p undef = .pointer (some a1)) (l1 : (loadVar t1 a1).run P w = .ok v1 w) :
    (results fn tmps).run P w = .ok (.tuple #[v2, v1]) w := by
  have h1' : tmps[p]?.getD undef = .pointer (some a1) := by simpa using h1
  have h2' : tmps[u]?.getD undef = v2 := by simpa using h2
  simp [results, h, h1', h2', asAddr, l1]
theorem results_ttc {P : Program} {fn : Func} {p u x : Tmp} {t1 : TypeId} (h : fn.results = #[.tmp u, .tmp x, .cell p t1]) (tmps : Array Value) (w : World) (a1 : Addr) (v1 v2 v3 : Value)
    (h2 : tmps.getD u undef = v2) (h3 : tmps.getD x undef = v3) (h1 : tmps.getD p undef = .pointer (some a1)) (l1 : (loadVar t1 a1).run P w = .ok v1 w) :
    (results fn tmps).run P w = .ok (.tuple #[v2, v3, v1]) w := by
  have h1' : tmps[p]?.getD undef = .pointer (some a1) := by simpa using h1
  have h2' : tmps[u]?.getD undef = v2 := by simpa using h2
  have h3' : tmps[x]?.getD undef = v3 := by simpa using h3
  simp [results, h, h1', h2', h3', asAddr, l1]
theorem results_ct {P : Program} {fn : Func} {p u : Tmp} {t1 : TypeId} (h : fn.results = #[.cell p t1, .tmp u]) (tmps : Array Value) (w : World) (a1 : Addr) (v1 v2 : Value)
    (h1 : tmps.getD p undef = .pointer (some a1)) (h2 : tmps.getD u undef = v2) (l1 : (loadVar t1 a1).run P w = .ok v1 w) :
    (results fn tmps).run P w = .ok (.tuple #[v1, v2]) w := by
  have h1' : tmps[p]?.getD undef = .pointer (some a1) := by simpa using h1
  have h2' : tmps[u]?.getD undef = v2 := by simpa using h2
  simp [results, h, h1', h2', asAddr, l1]
theorem results_ctt {P : Program} {fn : Func} {p u x : Tmp} {t1 : TypeId} (h : fn.results = #[.cell p t1, .tmp u, .tmp x]) (tmps : Array Value) (w : World) (a1 : Addr) (v1 v2 v3 : Value)
    (h1 : tmps.getD p undef = .pointer (some a1)) (h2 : tmps.getD u undef = v2) (h3 : tmps.getD x undef = v3) (l1 : (loadVar t1 a1).run P w = .ok v1 w) :
    (results fn tmps).run P w = .ok (.tuple #[v1, v2, v3]) w := by
  have h1' : tmps[p]?.getD undef = .pointer (some a1) := by simpa using h1
  have h2' : tmps[u]?.getD undef = v2 := by simpa using h2
  have h3' : tmps[x]?.getD undef = v3 := by simpa using h3
  simp [results, h, h1', h2', h3', asAddr, l1]
theorem results_cc {P : Program} {fn : Func} {p u : Tmp} {t1 t2 : TypeId} (h : fn.results = #[.cell p t1, .cell u t2]) (tmps : Array Value) (w : World) (a1 a2 : Addr) (v1 v2 : Value)
    (h1 : tmps.getD p undef = .pointer (some a1)) (h2 : tmps.getD u undef = .pointer (some a2)) (l1 : (loadVar t1 a1).run P w = .ok v1 w) (l2 : (loadVar t2 a2).run P w = .ok v2 w) :
    (results fn tmps).run P w = .ok (.tuple #[v1, v2]) w := by
  have h1' : tmps[p]?.getD undef = .pointer (some a1) := by simpa using h1
  have h2' : tmps[u]?.getD undef = .pointer (some a2) := by simpa using h2
  simp [results, h, h1', h2', asAddr, l1, l2]

/-! ## what a call may have turned -/
/-- of the blocks that there were only those in S may have turned -/
structure Fr (S : Nat → Prop) (w w' : World) : Prop where
  os : w'.os = w.os
  tape : w'.tape = w.tape
  output : w'.output = w.output
  size : w.heap.size ≤ w'.heap.size
  block : ∀ k, k < w.heap.size → ¬ S k → w'.heap[k]? = w.heap[k]?
theorem Fr.refl (S : Nat → Prop) (w : World) : Fr S w w := ⟨rfl, rfl, rfl, Nat.le_refl _, fun _ _ _ => rfl⟩
theorem Fr.trans {S : Nat → Prop} {a b c : World} (h : Fr S a b) (k : Fr S b c) : Fr S a c :=
  ⟨k.os.trans h.os, k.tape.trans h.tape, k.output.trans h.output, Nat.le_trans h.size k.size, fun i hi hs => (k.block i (Nat.lt_of_lt_of_le hi h.size) hs).trans (h.block i hi hs)⟩
/-- two calls: what the second one may turn lies in S, or is new -/
theorem Fr.trans' {S S' : Nat → Prop} {a b c : World} (h : Fr S a b) (k : Fr S' b c) (hs : ∀ i, i < a.heap.size → S' i → S i) : Fr S a c :=
  ⟨k.os.trans h.os, k.tape.trans h.tape, k.output.trans h.output, Nat.le_trans h.size k.size, fun i hi hn => (k.block i (Nat.lt_of_lt_of_le hi h.size) (fun h' => hn (hs i hi h'))).trans (h.block i hi hn)⟩
theorem Fr.mono {S S' : Nat → Prop} {a b : World} (h : Fr S a b) (hs : ∀ i, S i → S' i) : Fr S' a b := ⟨h.os, h.tape, h.output, h.size, fun i hi hn => h.block i hi (fun h' => hn (hs i h'))⟩
theorem Fr.of_grew {S : Nat → Prop} {a b : World} (h : Grew a b) : Fr S a b := ⟨h.os, h.tape, h.output, h.size, fun i hi _ => h.block i hi⟩
theorem Fr.of_grown {S : Nat → Prop} {a b : World} {row : Option Nat} (h : a.grownBy b row) (hs : ∀ k, row = some k → S k) : Fr S a b := ⟨h.os, h.tape, h.output, h.size, fun i hi hn => h.block i hi (fun e => hn (hs i e.symm))⟩
theorem Fr.set {S : Nat → Prop} {a b : World} (h : Fr S a b) (p j : Nat) (v : Value) (hs : p < a.heap.size → S p) : Fr S a (b.setCell ⟨p, j, none⟩ v) :=
  h.trans' (S' := (· = p)) ⟨rfl, rfl, rfl, by simp, fun i _ hn => heap_setCell_other b ⟨p, j, none⟩ i v hn⟩ (fun i hi e => by subst e; exact hs hi)
theorem Fr.alloc {S : Nat → Prop} {a b : World} (h : Fr S a b) (o : Obj) : Fr S a (b.alloc o) := h.trans (Fr.of_grew ((Below.refl _ _).alloc (Nat.le_refl _) _))
theorem Fr.drewN {S : Nat → Prop} {a b : World} (h : Fr S a b) (n : Nat) : Fr S a (b.drewN n) := h.trans (Fr.of_grew (Drew.grew ⟨n, rfl⟩))
theorem Fr.drew {S : Nat → Prop} {a b : World} (h : Fr S a b) : Fr S a b.drew := ⟨h.os, h.tape, h.output, h.size, h.block⟩
theorem Fr.below {S : Nat → Prop} {a b : World} {n : Nat} (h : Fr S a b) (hn : n ≤ a.heap.size) (hs : ∀ i, S i → n ≤ i) : Below n a b := ⟨h.os, h.tape, h.output, h.size, fun i hi => h.block i (by omega) (fun e => by have := hs i e; omega)⟩
theorem Fr.grew {S : Nat → Prop} {w a b : World} (h : Fr S a b) (hw : Grew w a) (hs : ∀ i, S i → w.heap.size ≤ i) : Grew w b := Below.trans hw (h.below hw.size hs)
theorem Blk.fr {S : Nat → Prop} {w w' : World} {b : Nat} {t : TypeId} {cs : Array Value} (h : Blk w b t cs) (hf : Fr S w w') (hs : ¬ S b) : Blk w' b t cs := (hf.block b h.lt hs).trans h
/-- the block that a slice value points into -/
def Value.blk : Value → Option Nat
  | .slice (some a) _ _ => some a.block
  | _ => none
theorem add_block (a : Addr) (n : Nat) : (a.add n).block = a.block := by unfold Addr.add; split <;> rfl
theorem Sl.fr {S : Nat → Prop} {w w' : World} {v : Value} {n k : Nat} {cs : List Value} (h : Sl w v n k cs) (hf : Fr S w w') (hs : ∀ g, Value.blk v = some g → cs ≠ [] → ¬ S g) : Sl w' v n k cs := by
  obtain ⟨hl, a, cap, rfl, h1, h2, h3, h4⟩ := h
  refine ⟨hl, a, cap, rfl, h1, h2, h3, fun ad ha j u hu => ?_⟩
  have hc := h4 ad ha j u hu
  have hlt := cell_lt hc
  subst ha
  have hne : cs ≠ [] := by intro e; subst e; cases hu
  have := hf.block _ hlt (by rw [add_block]; exact hs _ rfl hne)
  rw [World.cell?_of_block (w := w) this]
  exact hc
/-- a slice does not point into a block that holds other cells -/
theorem Sl.not_blk {w : World} {v : Value} {n k : Nat} {cs : List Value} (h : Sl w v n k cs) {b : Nat} {t : TypeId} {xs : Array Value} (hb : Blk w b t xs) (hne : ∀ u, cs[0]? = some u → u ∉ xs) : ∀ g, Value.blk v = some g → cs ≠ [] → g ≠ b := by
  rintro g hg hc rfl
  obtain ⟨hl, a, cap, rfl, h1, h2, h3, h4⟩ := h
  cases a with
  | none => cases hg
  | some ad =>
    cases hg
    cases cs with
    | nil => exact hc rfl
    | cons u cs =>
      have h0 := h4 ad rfl 0 u rfl
      rw [Addr.add_zero'] at h0
      have : w.cell? ⟨ad.block, ad.off, none⟩ = some u := by
        obtain ⟨b, o, s⟩ := ad
        have e : s = none := World.cell?_spot h0
        subst e; exact h0
      rw [hb.cell] at this
      exact hne u rfl (Array.mem_of_getElem? this)
theorem own_blk {w : World} {base : Nat} {e : TypeId} {size : Nat} {v : Value} {n : Nat} {xs : List Value} (h : w.ownsRow base e size v n xs) : v.ownBlock = Value.blk v := by
  rcases h.2 with ⟨rfl, _⟩ | ⟨g, cap, cur, rfl, _⟩ <;> rfl
theorem own_fr {S : Nat → Prop} {w w' : World} {base : Nat} {e : TypeId} {size : Nat} {v : Value} {n : Nat} {xs : List Value} (h : w.ownsRow base e size v n xs) (hf : Fr S w w') (hs : ∀ g, v.ownBlock = some g → ¬ S g) : w'.ownsRow base e size v n xs :=
  own_block h fun g hg => hf.block g (own_lt h g hg).2 (hs g hg)

/-! ## regions that draw their order, within a fence that bars nothing -/
def Open (F : Fence) : Prop := F = Fence.wide ∨ ∃ l, F = Fence.wide.inRound l
theorem open_wide : Open Fence.wide := .inl rfl
theorem open_round (l : Nat) : Open (Fence.wide.inRound l) := .inr ⟨l, rfl⟩
theorem calls_open {F : Fence} (hF : Open F) {n : Nat} {P : Program} {f : FuncId} {args : Array Value} {w : World} {R : Ending → World → Prop} (h : Calls P f args w R) : CallsIn F n P f args w R := by
  rcases hF with rfl | ⟨l, rfl⟩
  · exact callsIn_wide.2 h
  · exact CallsIn.inRound l (callsIn_wide.2 h)
theorem rows_open {F : Fence} (hF : Open F) {n : Nat} {P : Program} {row : String} {args : Array Value} {w : World} {R : Value → World → Prop} (h : Rows P row args w R) : RowsIn F n P row args w R := by
  intro c cs _
  obtain ⟨v, w', hr, hs⟩ := h c cs
  refine ⟨v, w', hr, ?_⟩
  rcases hF with rfl | ⟨l, rfl⟩ <;> exact stepsIn_wide.2 hs
theorem open_fn {F : Fence} (hF : Open F) (f : FuncId) : F.fn f := by rcases hF with rfl | ⟨l, rfl⟩ <;> trivial
theorem open_depth {F : Fence} (hF : Open F) : ¬ F.depth.isSome = true := by rcases hF with rfl | ⟨l, rfl⟩ <;> simp [Fence.wide, Fence.inRound]
theorem opIn_of_op {F : Fence} (hF : Open F) {n : Nat} {P : Program} {o : Oper} {a : Act} {w : World} {K : Act → World → Prop} {Q : Exit → Act → World → Prop} (hd : ∀ c : Call, o.op ≠ Op.defer c) (h : o.wp P a w K Q) : o.wpIn F n P a w K Q := by
  refine ⟨fun f _ => open_fn hF f, ?_⟩
  rw [Oper.semAt_eq _ _ _ hd]
  unfold Oper.wp at h
  generalize (execOp a.eval o).run P w = r at h
  unfold Oper.upon at h
  unfold Oper.uponIn
  split at h
  · exact h
  · exact h
  · exact h
  · exact ⟨fun hd => absurd hd (open_depth hF), calls_open hF h⟩
  · exact ⟨fun hd => absurd hd (open_depth hF), rows_open hF h⟩
  · exact h
  · exact h.elim
theorem wpAnyIn_of {F : Fence} (hF : Open F) {n : Nat} {P : Program} {md : Region.Mode} {ops : Array Oper} {Q : Exit → Act → World → Prop} (hQ : ¬ LetsOut Q) (hd : ∀ (i : Nat) (o : Oper) (c : Call), ops[i]? = some o → o.op ≠ Op.defer c) :
    ∀ (fuel : Nat) (listed : Array Bool) (a : Act) (w : World), wpAny P md ops Q fuel listed a w → wpAnyIn F n P md ops Q fuel listed a w := by
  intro fuel
  induction fuel with
  | zero => intro listed a w h; exact h
  | succ fuel ih =>
    intro listed a w h
    refine ⟨h.1, fun i hi => ?_⟩
    have h2 := h.2 i hi
    unfold wpOp at h2
    unfold wpOpIn
    cases ho : ops[i]? with
    | none => rw [ho] at h2; exact ih _ _ _ h2
    | some o =>
      rw [ho] at h2
      simp only at h2 ⊢
      split
      · rename_i hw
        rw [if_pos hw] at h2
        rcases h2 with h2 | ⟨_, h2⟩
        · exact opIn_of_op hF (hd i o · ho) (Oper.wp_mono (fun a w hk => ih _ _ _ hk) h2)
        · exact absurd h2 hQ
      · rename_i hw
        rw [if_neg hw] at h2
        exact ⟨fun f _ => open_fn hF f, ih _ _ _ h2⟩
def noDefer (ops : Array Oper) : Bool := ops.all fun o => match o.op with | .defer _ => false | _ => true
theorem noDefer_spec {ops : Array Oper} (h : noDefer ops = true) : ∀ (i : Nat) (o : Oper) (c : Call), ops[i]? = some o → o.op ≠ Op.defer c := by
  intro i o c ho e
  have := Array.all_eq_true'.1 h o (Array.mem_of_getElem? ho)
  rw [e] at this; cases this
/-- reads, then one operation that writes; outside rounds -/
theorem wp_region_tail {P : Program} {id : Nat} {Q : Exit → Act → World → Prop} {a : Act} {w : World} {l : List Oper} (n : Nat) (hm : P.follows .mixedOrders = true) (hB : Region.lexTailB .any l.toArray n = true)
    (h : wpStill P l.toArray w.drew (fun a' => wpList P l.toArray Q (l.drop n) a' w.drew) (l.take n) a) : (Code.region id l.toArray true).wp P Q a w := wp_region_still_tail n hm hB h
/-- reads, then one operation that writes -/
theorem wpIn_region_tail {F : Fence} (hF : Open F) {m : Nat} {P : Program} {id : Nat} {Q : Exit → Act → World → Prop} {a : Act} {w : World} {l : List Oper} (hQ : ¬ LetsOut Q) (n : Nat) (hm : P.follows .mixedOrders = true) (hB : Region.lexTailB .any l.toArray n = true) (hd : noDefer l.toArray = true)
    (h : wpStill P l.toArray w.drew (fun a' => wpList P l.toArray Q (l.drop n) a' w.drew) (l.take n) a) : (Code.region id l.toArray true).wpIn F m P Q a w := by
  simp only [Region.lexTailB, Bool.and_eq_true, decide_eq_true_eq] at hB
  obtain ⟨⟨⟨⟨hsel, hn⟩, hs⟩, hc⟩, hlex⟩ := hB
  have hn' : n < l.length := by simpa using hn
  have htl : (l.take n).length = n := by simp; omega
  have hdl : (l.drop n).length = l.toArray.size - n := by simp
  have inv0 : HeadInv .any l.toArray n (Array.replicate l.toArray.size false) :=
    ⟨by simp, fun j oj _ hl => (by rw [getD_replicate_false] at hl; cases hl), fun t _ ht => getD_in (by simpa using ht) (getD_replicate_false _ _)⟩
  have H := wpAnyL_lex (md := .any) (g := l.toArray.size - n) hsel hs hc hn (l.take n) 0 _ a (fun j hj => by
    have hj' : j < n := by rw [htl] at hj; exact hj
    simp [hj']) (by simpa using htl) inv0 (by rw [htl]; exact hlex) h
  refine wpIn_region_any hm (wpAnyIn_of hF hQ (noDefer_spec hd) _ _ _ _ ?_)
  have := wpAny_of_head (Q' := Q) (g := l.toArray.size - n) (fun listed a' hL => by
    have := wpAny_of_seq (md := .any) (Q' := Q) (l.drop n) n listed a' { w with drawn := w.drawn + 1 } (fun j => by simp [List.getElem?_drop]) (by rw [hdl]; exact hL.1) hL.2
    rwa [hdl] at this) _ _ _ H
  rw [htl, show n + (l.toArray.size - n) = l.toArray.size by omega] at this
  exact this
/-- reads and quiet calls alone -/
theorem wpIn_region_quiet {F : Fence} (hF : Open F) {m : Nat} {P : Program} {id : Nat} {Q : Exit → Act → World → Prop} {a : Act} {w : World} {l : List Oper} (hQ : ¬ LetsOut Q) (hm : P.follows .mixedOrders = true) (hB : Region.lexB .any l.toArray = true) (hd : noDefer l.toArray = true)
    (h : wpQuiet P l.toArray (fun w' => ∃ n, w' = w.drewN n) (fun a' => ∀ w', (∃ n, w' = w.drewN n) → Q .normal a' w') l a) : (Code.region id l.toArray true).wpIn F m P Q a w := by
  simp only [Region.lexB, Bool.and_eq_true] at hB
  refine wpIn_region_any hm (wpAnyIn_of hF hQ (noDefer_spec hd) _ _ _ _ (wpAny_of_quiet (C := fun w' => ∃ n, w' = w.drewN n) (Q := fun a' => ∀ w', (∃ n, w' = w.drewN n) → Q .normal a' w') (fun _ w' hw' h => h w' hw') _ _ _ _ ⟨1, rfl⟩ ?_))
  have := wpAnyQ_lex (C := fun w' => ∃ n, w' = w.drewN n) (md := .any) hB.1 l 0 (Array.replicate l.toArray.size false) a (by simp) (by simpa using hB.2) h
  simpa using this

/-- what is left of a region whose order is drawn, once its one writing operation has come up: reads and quiet calls -/
theorem wpAnyH_of_quiet {P : Program} {md : Region.Mode} {ops : Array Oper} {Q : Exit → Act → World → Prop} {S C : World → Prop} {R : Act → Prop} (hS : ∀ w, C w → S w) (hQ : ∀ a w, C w → R a → Q .normal a w) :
    ∀ (fuel : Nat) (listed : Array Bool) (a : Act) (w : World), C w → wpAnyQ P md ops C R fuel listed a → wpAnyH P md ops Q S fuel listed a w
  | 0, _, _, _, hw, h => ⟨h.1, hQ _ _ hw h.2⟩
  | fuel + 1, _, _, _, hw, h => ⟨fun h0 => hQ _ _ hw (h.1 h0), fun i hi => wpOp_of_qOp hw (fun a' w' hw' hk => ⟨hS _ hw', wpAnyH_of_quiet hS hQ fuel _ a' w' hw' hk⟩) (h.2 i hi)⟩
theorem wpAnyH_tail {P : Program} {md : Region.Mode} {ops : Array Oper} {Q : Exit → Act → World → Prop} {S : World → Prop} {fuel : Nat} {listed : Array Bool} {a : Act} {w : World} (k : Nat) (hf : fuel = ops.size - k)
    (hs : Region.noSelect ops = true) (hB : Region.lexFrom md ops fuel k listed = true) (hS : ∀ m, S (w.drewN m))
    (h : wpQuiet P ops (fun w' => ∃ n, w' = w.drewN n) (fun a' => ∀ w', (∃ n, w' = w.drewN n) → Q .normal a' w') (ops.toList.drop k) a) : wpAnyH P md ops Q S fuel listed a w := by
  refine wpAnyH_of_quiet (C := fun w' => ∃ n, w' = w.drewN n) (R := fun a' => ∀ w', (∃ n, w' = w.drewN n) → Q .normal a' w') (fun _ ⟨m, e⟩ => e ▸ hS m) (fun _ w' hw' h => h w' hw') _ _ _ _ ⟨0, rfl⟩ ?_
  have hl : (ops.toList.drop k).length = fuel := by rw [List.length_drop, Array.length_toList, hf]
  have := wpAnyQ_lex (P := P) (md := md) (C := fun w' => ∃ n, w' = w.drewN n) (Q := fun a' => ∀ w', (∃ n, w' = w.drewN n) → Q .normal a' w') hs (ops.toList.drop k) k listed a (fun j => by simp [List.getElem?_drop]) (by rw [hl]; exact hB) h
  rwa [hl] at this

/-! ## a range over a function, at the wide fence -/
/-- what may have turned: blocks from B on that hold no cells; new blocks -/
structure CK (B : Nat) (A A' : World) : Prop where
  os : A'.os = A.os
  tape : A'.tape = A.tape
  output : A'.output = A.output
  size : A.heap.size ≤ A'.heap.size
  block : ∀ k, A'.heap[k]? = A.heap[k]? ∨ (B ≤ k ∧ ∀ o, A.heap[k]? = some o → o.isCells = false)

theorem CK.refl (B : Nat) (A : World) : CK B A A := ⟨rfl, rfl, rfl, Nat.le_refl _, fun _ => .inl rfl⟩
theorem CK.heap {B : Nat} {A A' : World} (h : CK B A A') {k : Nat} {c : Array Value} {t : TypeId} {f : Nat × Nat} (hk : A.heap[k]? = some (.cells c t f)) : A'.heap[k]? = some (.cells c t f) := by
  rcases h.block k with e | ⟨_, hc⟩
  · exact e.trans hk
  · have := hc _ hk; cases this
theorem CK.ext {B : Nat} {A A' : World} (h : CK B A A') : Ext A A' := by
  intro a u hu
  unfold World.cell? at hu ⊢
  cases ho : A.heap[a.block]? with
  | none => rw [ho] at hu; cases hu
  | some o =>
    cases o with
    | cells c t f => rw [h.heap ho]; rw [ho] at hu; exact hu
    | _ => rw [ho] at hu; cases hu
theorem CK.toBelow {B n : Nat} {A A' : World} (h : CK B A A') (hn : n ≤ B) : Below n A A' :=
  ⟨h.os, h.tape, h.output, h.size, fun k hk => by
    rcases h.block k with e | ⟨hB, _⟩
    · exact e
    · omega⟩
theorem CK.below {B n : Nat} {w A A' : World} (h : CK B A A') (hb : Below n w A) (hn : n ≤ B) : Below n w A' := hb.trans (h.toBelow hn)
theorem CK.kp {B n : Nat} {a b c d : World} (h : CK B a b) (hb : Below n b c) (k : CK B c d) (hn : n ≤ B) : Below n a d := ((h.toBelow hn).trans hb).trans (k.toBelow hn)
theorem CK.blk {B : Nat} {A A' : World} (h : CK B A A') {b : Nat} {t : TypeId} {cs : Array Value} (hb : Blk A b t cs) : Blk A' b t cs := h.heap hb
theorem CK.boxed {B : Nat} {A A' : World} (h : CK B A A') {b : Nat} {t : TypeId} {v : Value} (hb : Boxed A b t v) : Boxed A' b t v := h.heap hb
theorem CK.own {B : Nat} {A A' : World} (h : CK B A A') {base : Nat} {e : TypeId} {size : Nat} {v : Value} {n : Nat} {xs : List Value} (ho : A.ownsRow base e size v n xs) : A'.ownsRow base e size v n xs := by
  refine ⟨ho.1, ?_⟩
  rcases ho.2 with h' | ⟨g, cap, cur, hv, hbg, hg, rest⟩
  · exact .inl h'
  · exact .inr ⟨g, cap, cur, hv, hbg, h.heap hg, rest⟩
theorem CK.putObj (B : Nat) (W : World) (l : Nat) (o o' : Obj) (hl : W.heap[l]? = some o) (ho : o.isCells = false) (hB : B ≤ l) : CK B W (W.putObj l o') :=
  ⟨rfl, rfl, rfl, by simp, fun k => by
    by_cases e : k = l
    · subst e; exact .inr ⟨hB, fun o1 h1 => by rw [hl] at h1; cases h1; exact ho⟩
    · exact .inl (World.putObj_heap_other e)⟩
theorem CK.alloc (B : Nat) (W : World) (o : Obj) (hB : B ≤ W.heap.size) : CK B W (W.alloc o) := ⟨rfl, rfl, rfl, by simp, fun k => by
  by_cases e : k < W.heap.size
  · exact .inl (Below.heap_alloc W o k e)
  · refine .inr ⟨by omega, fun o1 h1 => ?_⟩
    have := (Array.getElem?_eq_some_iff.1 h1).1
    omega⟩
theorem CK.trans {B : Nat} {a b c : World} (h : CK B a b) (k : CK B b c) : CK B a c :=
  ⟨k.os.trans h.os, k.tape.trans h.tape, k.output.trans h.output, Nat.le_trans h.size k.size, fun i => by
    rcases h.block i with e | e
    · rcases k.block i with e2 | ⟨e2, e3⟩
      · exact .inl (e2.trans e)
      · exact .inr ⟨e2, fun o ho => e3 o (e.trans ho)⟩
    · exact .inr e⟩

/-- what an iterator's function value promises, when the loop over it begins in world w: it yields elements one by one ('Ok pre x': x may come behind pre), its own steps are 'St', a round that goes on keeps 'Kp'; in the end all have come ('S'), or a round has said 'no more' ('Sp') -/
def Iter {α : Type} (P : Program) (gf : Nat) (lb : Array Value) (encs : α → Array Value) (St Kp : World → World → Prop) (Ok : List α → α → Prop) (S Sp : List α → Prop) (w : World) : Prop :=
  ∀ (l : Nat) (J Jx : List α → World → Prop) (W : World), Grew w W →
    (∀ pre A B, J pre A → St A B → J pre B) → (∀ pre A B, Jx pre A → St A B → Jx pre B) →
    (∀ pre x W1, J pre W1 → Ok pre x → YieldAt Fence.wide 0 P l (encs x) W1 fun e W' =>
      (e = .returned (.bool true) ∧ J (pre ++ [x]) W' ∧ Kp W1 W') ∨ (e = .returned (.bool false) ∧ Jx (pre ++ [x]) W')) →
    J [] W →
    CallsIn Fence.wide 0 P gf (#[.func (.yield l) #[] #[]] ++ lb) W fun e W' => (∃ v, e = .returned v) ∧ ((∃ xs, S xs ∧ J xs W') ∨ (∃ pre, Sp pre ∧ Jx pre W'))

/-- how the body of a round may be left -/
def rpost {α : Type} (Kp : World → World → Prop) (I : List α → World → Prop) (Ix : Code → List α → World → Prop) (xs : List α) (W : World) : Exit → Act → World → Prop
  | .normal, _, W' => KeepsOthers W W' ∧ Kp W W' ∧ I xs W'
  | .ret, _, W' => KeepsOthers W W' ∧ Ix .ret xs W'
  | .exit id, _, W' => KeepsOthers W W' ∧ Ix (.exit id) xs W'
  | .goto t, _, W' => KeepsOthers W W' ∧ Ix (.goto t) xs W'
  | .panic _, _, _ => False
  | .outgrown, _, _ => False

/-- .. where Kp is told from the world in which yield was called -/
def rpostB {α : Type} (Kp : World → Prop) (I : List α → World → Prop) (Ix : Code → List α → World → Prop) (xs : List α) (W : World) : Exit → Act → World → Prop
  | .normal, _, W' => KeepsOthers W W' ∧ Kp W' ∧ I xs W'
  | .ret, _, W' => KeepsOthers W W' ∧ Ix .ret xs W'
  | .exit id, _, W' => KeepsOthers W W' ∧ Ix (.exit id) xs W'
  | .goto t, _, W' => KeepsOthers W W' ∧ Ix (.goto t) xs W'
  | .panic _, _, _ => False
  | .outgrown, _, _ => False

theorem wpIn_iterB {α : Type} {P : Program} {g : Operand} {ps : Array Tmp} {assign body : Code} {Q : Exit → Act → World → Prop} {a : Act} {w : World}
    {gf : Nat} {lb : Array Value} (hg : a.eval g = .func (.func gf) #[] lb) (eg : ∀ args w, (callFunc gf args).run P w = .ok (.enter gf args) w)
    {encs : α → Array Value} {St Kp : World → World → Prop} {Ok : List α → α → Prop} {S Sp : List α → Prop} (hseq : Iter P gf lb encs St Kp Ok S Sp w)
    (hStO : ∀ A B, St A B → KeepsOthers A B) (hKp : ∀ A B C, Kp A B → CK w.heap.size B C → Kp A C) (hps : ∀ x, (encs x).size = ps.size)
    (I : List α → World → Prop) (Ix : Code → List α → World → Prop)
    (hI : ∀ pre A B, I pre A → St A B → I pre B) (hIc : ∀ pre A B, I pre A → CK w.heap.size A B → I pre B)
    (hIx : ∀ c pre A B, Ix c pre A → St A B → Ix c pre B) (hIxc : ∀ c pre A B, Ix c pre A → CK w.heap.size A B → Ix c pre B)
    (h0 : I [] w)
    (hround : ∀ (l : Nat) (pre : List α) (x : α) (W : World), I pre W → Ok pre x →
      assign.wpIn (Fence.wide.inRound l) 0 P (Exit.then (fun a₁ w₁ => KeepsOthers W w₁ ∧ (I pre W → I pre w₁) ∧ ∀ W2, CK w.heap.size w₁ W2 → W2.heap.size = w₁.heap.size → I pre W2 → body.wpIn (Fence.wide.inRound l) 0 P (rpostB (Kp W) I Ix (pre ++ [x]) W2) a₁ W2) (fun _ _ _ => False))
        { tmps := (ps.zip (encs x)).foldl (fun t (p, v) => t.setIfInBounds p v) a.tmps, defers := [] } W)
    (hdone : ∀ (xs : List α) (W : World), S xs → I xs W → W.heap[w.heap.size]? = some (.deferred (some [])) → Q .normal { a with defers := { target := .collected w.heap.size, args := #[] } :: a.defers } W)
    (hstop : ∀ (c : Code) (pre : List α) (W : World), Sp pre → Ix c pre W → W.heap[w.heap.size]? = some (.deferred (some [])) → c.wpIn Fence.wide 0 P Q { a with defers := { target := .collected w.heap.size, args := #[] } :: a.defers } W) :
    (Code.rangeFunc g ps assign body).wpIn Fence.wide 0 P Q a w := by
  refine wpIn_rangeFunc ?_
  intro fn hfn
  obtain ⟨rec, hrec⟩ : ∃ rec : LoopState → Option Code → Loop, rec = fun st pe => { state := st, pending := pe, fn, tmps := a.tmps, params := ps, assign, body, defers := w.heap.size } := ⟨_, rfl⟩
  obtain ⟨W1, hW1⟩ : ∃ W1, (w.alloc (.deferred (some []))).alloc (.loop (rec .ready none)) = W1 := ⟨_, rfl⟩
  have hL1 : W1.heap[w.heap.size + 1]? = some (.loop (rec .ready none)) := by
    rw [← hW1]; have := World.alloc_heap_new (w.alloc (.deferred (some []))) (.loop (rec .ready none)); rwa [World.size_alloc] at this
  have hK1 : W1.heap[w.heap.size]? = some (.deferred (some [])) := by
    rw [← hW1]; exact (Below.heap_alloc _ _ _ (by simp)).trans (World.alloc_heap_new w _)
  have hI1 : I [] W1 := by rw [← hW1]; exact hIc _ _ _ h0 ((CK.alloc _ _ _ (Nat.le_refl _)).trans (CK.alloc _ _ _ (by simp)))
  have hb1 : Grew w W1 := by rw [← hW1]; exact ((Below.refl _ w).alloc (Nat.le_refl _) _).alloc (by simp) _
  refine ⟨w.heap.size + 1, [{ target := .collected w.heap.size, args := #[] }], W1, { target := .fn (.func gf) lb, args := #[.func (.yield (w.heap.size + 1)) #[] #[]] }, W1, gf,
    #[.func (.yield (w.heap.size + 1)) #[] #[]] ++ lb, W1, ?_, ?_, ?_, ?_, (fun h => by simp [Fence.wide] at h), ?_⟩
  · rw [← hW1, hrec]; exact run_enterLoop_outer _ _ _ _ _
  · simp only [resolve, hg]
    simp [go_sem]
  · intro f' hf'; trivial
  · simp [invoke, go_sem, eg]
  · refine (hseq (w.heap.size + 1)
      (fun pre W => I pre W ∧ W.heap[w.heap.size + 1]? = some (.loop (rec .ready none)) ∧ W.heap[w.heap.size]? = some (.deferred (some [])))
      (fun pre W => ∃ c, Ix c pre W ∧ W.heap[w.heap.size + 1]? = some (.loop (rec .done (some c))) ∧ W.heap[w.heap.size]? = some (.deferred (some [])))
      W1 hb1
      (fun pre A B hs hst => ⟨hI _ _ _ hs.1 hst, (hStO _ _ hst).same _ _ hs.2.1 rfl, (hStO _ _ hst).same _ _ hs.2.2 rfl⟩)
      (fun pre A B hs hst => by
        obtain ⟨c, hc, hl, hk⟩ := hs
        exact ⟨c, hIx _ _ _ _ hc hst, (hStO _ _ hst).same _ _ hl rfl, (hStO _ _ hst).same _ _ hk rfl⟩)
      ?_ ⟨hI1, hL1, hK1⟩).mono ?_
    · rintro pre x W ⟨hi, hl, hk⟩ hok
      have hlt : w.heap.size + 1 < W.heap.size := (Array.getElem?_eq_some_iff.1 hl).1
      have hy := run_yield (P := P) (args := encs x) hl (by rw [hrec]; exact hps x)
      rw [hrec] at hy
      refine ⟨fn, _, assign, body, hy, roundIn_of_wpIn hfn (wpIn_mono (hround _ pre x W hi hok) ?_)⟩
      intro e a₁ w₁ hp
      cases e with
      | normal =>
        obtain ⟨hko, hi1, hb⟩ := hp
        replace hi := hi1 hi
        replace hl := hko.same _ _ hl rfl
        replace hk := hko.same _ _ hk rfl
        replace hlt : w.heap.size + 1 < w₁.heap.size := (Array.getElem?_eq_some_iff.1 hl).1
        have hl2 : (w₁.putObj (w.heap.size + 1) (.loop { rec .ready none with state := .busy })).heap[w.heap.size + 1]? = some (.loop { rec .ready none with state := .busy }) := World.putObj_heap_same hlt
        have hk2 : (w₁.putObj (w.heap.size + 1) (.loop { rec .ready none with state := .busy })).heap[w.heap.size]? = some (.deferred (some [])) := (World.putObj_heap_other (by omega)).trans hk
        have hck : CK w.heap.size w₁ (w₁.putObj (w.heap.size + 1) (.loop { rec .ready none with state := .busy })) := CK.putObj _ _ _ _ _ hl rfl (by omega)
        refine ⟨_, run_beginRound hl (by rw [hrec]), wpIn_mono (hb _ hck (by simp) (hIc _ _ _ hi hck)) ?_⟩
        have fin : ∀ (jump : Option Code) (W3 : World), KeepsOthers (w₁.putObj (w.heap.size + 1) (.loop { rec .ready none with state := .busy })) W3 →
            (Instr.endRound (w.heap.size + 1) jump).run P W3 = .ok (.bool jump.isNone) (W3.putObj (w.heap.size + 1) (.loop (rec (if jump.isNone then .ready else .done) jump))) ∧
            W3.heap[w.heap.size + 1]? = some (.loop { rec .ready none with state := .busy }) ∧
            (W3.putObj (w.heap.size + 1) (.loop (rec (if jump.isNone then .ready else .done) jump))).heap[w.heap.size + 1]? = some (.loop (rec (if jump.isNone then .ready else .done) jump)) ∧
            (W3.putObj (w.heap.size + 1) (.loop (rec (if jump.isNone then .ready else .done) jump))).heap[w.heap.size]? = some (.deferred (some [])) := fun jump W3 hk3 => by
          have hl3 := hk3.same _ _ hl2 rfl
          have := run_endRound (P := P) jump hl3
          rw [hrec] at this ⊢
          exact ⟨this, by rw [hrec] at hl3; exact hl3, World.putObj_heap_same (Array.getElem?_eq_some_iff.1 hl3).1, (World.putObj_heap_other (by omega)).trans (hk3.same _ _ hk2 rfl)⟩
        rintro e a3 W3 hp
        cases e with
        | normal =>
          obtain ⟨hk3, hkp3, hi3⟩ := hp
          obtain ⟨hr, hl3, hl4, hk4⟩ := fin none W3 hk3
          have hck3 := CK.putObj w.heap.size W3 (w.heap.size + 1) _ (.loop (rec (if (none : Option Code).isNone then .ready else .done) none)) hl3 rfl (by omega)
          exact ⟨_, _, hr, .inl ⟨rfl, ⟨hIc _ _ _ hi3 hck3, hl4, hk4⟩, hKp _ _ _ hkp3 hck3⟩⟩
        | ret =>
          obtain ⟨hk3, hi3⟩ := hp
          obtain ⟨hr, hl3, hl4, hk4⟩ := fin (some .ret) W3 hk3
          exact ⟨_, _, hr, .inr ⟨rfl, .ret, hIxc _ _ _ _ hi3 (CK.putObj _ _ _ _ _ hl3 rfl (by omega)), hl4, hk4⟩⟩
        | exit id =>
          obtain ⟨hk3, hi3⟩ := hp
          obtain ⟨hr, hl3, hl4, hk4⟩ := fin (some (.exit id)) W3 hk3
          exact ⟨_, _, hr, .inr ⟨rfl, .exit id, hIxc _ _ _ _ hi3 (CK.putObj _ _ _ _ _ hl3 rfl (by omega)), hl4, hk4⟩⟩
        | goto t =>
          obtain ⟨hk3, hi3⟩ := hp
          obtain ⟨hr, hl3, hl4, hk4⟩ := fin (some (.goto t)) W3 hk3
          exact ⟨_, _, hr, .inr ⟨rfl, .goto t, hIxc _ _ _ _ hi3 (CK.putObj _ _ _ _ _ hl3 rfl (by omega)), hl4, hk4⟩⟩
        | panic ch => exact hp.elim
        | outgrown => exact hp.elim
      | _ => exact hp.elim
    · rintro e W2 ⟨⟨v, rfl⟩, (⟨xs, hS, hi, hl, hk⟩ | ⟨pre, hSp, c, hi, hl, hk⟩)⟩
      · exact ⟨none, _, by have := run_endLoop (P := P) hl (by rw [hrec]; simp); rw [hrec] at this; exact this, hdone xs _ hS (hIc _ _ _ hi (CK.putObj _ _ _ _ _ hl rfl (by omega))) ((World.putObj_heap_other (by omega)).trans hk)⟩
      · exact ⟨some c, _, by have := run_endLoop (P := P) hl (by rw [hrec]; simp); rw [hrec] at this; exact this, hstop c pre _ hSp (hIxc _ _ _ _ hi (CK.putObj _ _ _ _ _ hl rfl (by omega))) ((World.putObj_heap_other (by omega)).trans hk)⟩

/-- a block of cells that stays -/
def KeepB (b : Nat) (t : TypeId) (A B : World) : Prop := ∀ cs, Blk A b t cs → Blk B b t cs
theorem KeepB.trans {b : Nat} {t : TypeId} {x y z : World} (h : KeepB b t x y) (k : KeepB b t y z) : KeepB b t x z := fun cs hc => k cs (h cs hc)
theorem KeepB.ck {b : Nat} {t : TypeId} {n : Nat} {x y z : World} (h : KeepB b t x y) (k : CK n y z) : KeepB b t x z := fun cs hc => k.blk (h cs hc)
theorem grew_alloc (w : World) (o : Obj) : Grew w (w.alloc o) := (Below.refl _ _).alloc (Nat.le_refl _) _

theorem wpIn_iter {α : Type} {P : Program} {g : Operand} {ps : Array Tmp} {assign body : Code} {Q : Exit → Act → World → Prop} {a : Act} {w : World}
    {gf : Nat} {lb : Array Value} (hg : a.eval g = .func (.func gf) #[] lb) (eg : ∀ args w, (callFunc gf args).run P w = .ok (.enter gf args) w)
    {encs : α → Array Value} {St Kp : World → World → Prop} {Ok : List α → α → Prop} {S Sp : List α → Prop} (hseq : Iter P gf lb encs St Kp Ok S Sp w)
    (hStO : ∀ A B, St A B → KeepsOthers A B) (hKp : ∀ A B C D, CK w.heap.size A B → Kp B C → CK w.heap.size C D → Kp A D) (hps : ∀ x, (encs x).size = ps.size)
    (I : List α → World → Prop) (Ix : Code → List α → World → Prop)
    (hI : ∀ pre A B, I pre A → St A B → I pre B) (hIc : ∀ pre A B, I pre A → CK w.heap.size A B → I pre B)
    (hIx : ∀ c pre A B, Ix c pre A → St A B → Ix c pre B) (hIxc : ∀ c pre A B, Ix c pre A → CK w.heap.size A B → Ix c pre B)
    (h0 : I [] w)
    (hround : ∀ (l : Nat) (pre : List α) (x : α) (W : World), I pre W → Ok pre x →
      assign.wpIn (Fence.wide.inRound l) 0 P (Exit.then (fun a₁ w₁ => w₁ = W ∧ ∀ W2, CK w.heap.size W W2 → W2.heap.size = W.heap.size → I pre W2 → body.wpIn (Fence.wide.inRound l) 0 P (rpost Kp I Ix (pre ++ [x]) W2) a₁ W2) (fun _ _ _ => False))
        { tmps := (ps.zip (encs x)).foldl (fun t (p, v) => t.setIfInBounds p v) a.tmps, defers := [] } W)
    (hdone : ∀ (xs : List α) (W : World), S xs → I xs W → W.heap[w.heap.size]? = some (.deferred (some [])) → Q .normal { a with defers := { target := .collected w.heap.size, args := #[] } :: a.defers } W)
    (hstop : ∀ (c : Code) (pre : List α) (W : World), Sp pre → Ix c pre W → W.heap[w.heap.size]? = some (.deferred (some [])) → c.wpIn Fence.wide 0 P Q { a with defers := { target := .collected w.heap.size, args := #[] } :: a.defers } W) :
    (Code.rangeFunc g ps assign body).wpIn Fence.wide 0 P Q a w :=
  wpIn_iterB hg eg hseq hStO (fun A B C h k => hKp A A B C (CK.refl _ _) h k) hps I Ix hI hIc hIx hIxc h0
    (fun l pre x W hi hok => wpIn_mono (hround l pre x W hi hok) (fun e a₁ w₁ hp => by
      cases e with
      | normal =>
        obtain ⟨rfl, hb⟩ := hp
        refine ⟨KeepsOthers.refl _, id, fun W2 hck hsz hi2 => wpIn_mono (hb W2 hck hsz hi2) (fun e a w' hq => ?_)⟩
        cases e with
        | normal => exact ⟨hq.1, hKp _ _ _ _ hck hq.2.1 (CK.refl _ _), hq.2.2⟩
        | _ => exact hq
      | _ => exact hp)) hdone hstop

/-- as 'Iter', where no round ever says 'no more' -/
def IterAll {α : Type} (P : Program) (gf : Nat) (lb : Array Value) (encs : α → Array Value) (St Kp : World → World → Prop) (Ok : List α → α → Prop) (S : List α → Prop) (w : World) : Prop :=
  ∀ (l : Nat) (J : List α → World → Prop) (W : World), Grew w W →
    (∀ pre A B, J pre A → St A B → J pre B) →
    (∀ pre x W1, J pre W1 → Ok pre x → YieldAt Fence.wide 0 P l (encs x) W1 fun e W' =>
      e = .returned (.bool true) ∧ J (pre ++ [x]) W' ∧ Kp W1 W') →
    J [] W →
    CallsIn Fence.wide 0 P gf (#[.func (.yield l) #[] #[]] ++ lb) W fun e W' => (∃ v, e = .returned v) ∧ ∃ xs, S xs ∧ J xs W'
/-- how the body of a round that goes on is left -/
def rpostA {α : Type} (Kp : World → World → Prop) (I : List α → World → Prop) (xs : List α) (W : World) : Exit → Act → World → Prop
  | .normal, _, W' => KeepsOthers W W' ∧ Kp W W' ∧ I xs W'
  | _, _, _ => False

/-- .. where Kp is told from the world in which yield was called -/
def rpostAB {α : Type} (Kp : World → Prop) (I : List α → World → Prop) (xs : List α) (W : World) : Exit → Act → World → Prop
  | .normal, _, W' => KeepsOthers W W' ∧ Kp W' ∧ I xs W'
  | _, _, _ => False

/-- a loop over an iterator whose rounds all go on -/
theorem wpIn_allB {α : Type} {P : Program} {g : Operand} {ps : Array Tmp} {assign body : Code} {Q : Exit → Act → World → Prop} {a : Act} {w : World}
    {gf : Nat} {lb : Array Value} (hg : a.eval g = .func (.func gf) #[] lb) (eg : ∀ args w, (callFunc gf args).run P w = .ok (.enter gf args) w)
    {encs : α → Array Value} {St Kp : World → World → Prop} {Ok : List α → α → Prop} {S : List α → Prop} (hseq : IterAll P gf lb encs St Kp Ok S w)
    (hStO : ∀ A B, St A B → KeepsOthers A B) (hKp : ∀ A B C, Kp A B → CK w.heap.size B C → Kp A C) (hps : ∀ x, (encs x).size = ps.size)
    (I : List α → World → Prop)
    (hI : ∀ pre A B, I pre A → St A B → I pre B) (hIc : ∀ pre A B, I pre A → CK w.heap.size A B → I pre B)
    (h0 : I [] w)
    (hround : ∀ (l : Nat) (pre : List α) (x : α) (W : World), I pre W → Ok pre x →
      assign.wpIn (Fence.wide.inRound l) 0 P (Exit.then (fun a₁ w₁ => KeepsOthers W w₁ ∧ (I pre W → I pre w₁) ∧ ∀ W2, CK w.heap.size w₁ W2 → W2.heap.size = w₁.heap.size → I pre W2 → body.wpIn (Fence.wide.inRound l) 0 P (rpostAB (Kp W) I (pre ++ [x]) W2) a₁ W2) (fun _ _ _ => False))
        { tmps := (ps.zip (encs x)).foldl (fun t (p, v) => t.setIfInBounds p v) a.tmps, defers := [] } W)
    (hdone : ∀ (xs : List α) (W : World), S xs → I xs W → W.heap[w.heap.size]? = some (.deferred (some [])) → Q .normal { a with defers := { target := .collected w.heap.size, args := #[] } :: a.defers } W) :
    (Code.rangeFunc g ps assign body).wpIn Fence.wide 0 P Q a w := by
  refine wpIn_rangeFunc ?_
  intro fn hfn
  obtain ⟨rec, hrec⟩ : ∃ rec : LoopState → Option Code → Loop, rec = fun st pe => { state := st, pending := pe, fn, tmps := a.tmps, params := ps, assign, body, defers := w.heap.size } := ⟨_, rfl⟩
  obtain ⟨W1, hW1⟩ : ∃ W1, (w.alloc (.deferred (some []))).alloc (.loop (rec .ready none)) = W1 := ⟨_, rfl⟩
  have hL1 : W1.heap[w.heap.size + 1]? = some (.loop (rec .ready none)) := by
    rw [← hW1]; have := World.alloc_heap_new (w.alloc (.deferred (some []))) (.loop (rec .ready none)); rwa [World.size_alloc] at this
  have hK1 : W1.heap[w.heap.size]? = some (.deferred (some [])) := by
    rw [← hW1]; exact (Below.heap_alloc _ _ _ (by simp)).trans (World.alloc_heap_new w _)
  have hI1 : I [] W1 := by rw [← hW1]; exact hIc _ _ _ h0 ((CK.alloc _ _ _ (Nat.le_refl _)).trans (CK.alloc _ _ _ (by simp)))
  have hb1 : Grew w W1 := by rw [← hW1]; exact ((Below.refl _ w).alloc (Nat.le_refl _) _).alloc (by simp) _
  refine ⟨w.heap.size + 1, [{ target := .collected w.heap.size, args := #[] }], W1, { target := .fn (.func gf) lb, args := #[.func (.yield (w.heap.size + 1)) #[] #[]] }, W1, gf,
    #[.func (.yield (w.heap.size + 1)) #[] #[]] ++ lb, W1, ?_, ?_, ?_, ?_, (fun h => by simp [Fence.wide] at h), ?_⟩
  · rw [← hW1, hrec]; exact run_enterLoop_outer _ _ _ _ _
  · simp only [resolve, hg]
    simp [go_sem]
  · intro f' hf'; trivial
  · simp [invoke, go_sem, eg]
  · refine (hseq (w.heap.size + 1)
      (fun pre W => I pre W ∧ W.heap[w.heap.size + 1]? = some (.loop (rec .ready none)) ∧ W.heap[w.heap.size]? = some (.deferred (some [])))
      W1 hb1
      (fun pre A B hs hst => ⟨hI _ _ _ hs.1 hst, (hStO _ _ hst).same _ _ hs.2.1 rfl, (hStO _ _ hst).same _ _ hs.2.2 rfl⟩)
      ?_ ⟨hI1, hL1, hK1⟩).mono ?_
    · rintro pre x W ⟨hi, hl, hk⟩ hok
      have hlt : w.heap.size + 1 < W.heap.size := (Array.getElem?_eq_some_iff.1 hl).1
      have hy := run_yield (P := P) (args := encs x) hl (by rw [hrec]; exact hps x)
      rw [hrec] at hy
      refine ⟨fn, _, assign, body, hy, roundIn_of_wpIn hfn (wpIn_mono (hround _ pre x W hi hok) ?_)⟩
      intro e a₁ w₁ hp
      cases e with
      | normal =>
        obtain ⟨hko, hi1, hb⟩ := hp
        replace hi := hi1 hi
        replace hl := hko.same _ _ hl rfl
        replace hk := hko.same _ _ hk rfl
        replace hlt : w.heap.size + 1 < w₁.heap.size := (Array.getElem?_eq_some_iff.1 hl).1
        have hl2 : (w₁.putObj (w.heap.size + 1) (.loop { rec .ready none with state := .busy })).heap[w.heap.size + 1]? = some (.loop { rec .ready none with state := .busy }) := World.putObj_heap_same hlt
        have hk2 : (w₁.putObj (w.heap.size + 1) (.loop { rec .ready none with state := .busy })).heap[w.heap.size]? = some (.deferred (some [])) := (World.putObj_heap_other (by omega)).trans hk
        have hck : CK w.heap.size w₁ (w₁.putObj (w.heap.size + 1) (.loop { rec .ready none with state := .busy })) := CK.putObj _ _ _ _ _ hl rfl (by omega)
        refine ⟨_, run_beginRound hl (by rw [hrec]), wpIn_mono (hb _ hck (by simp) (hIc _ _ _ hi hck)) ?_⟩
        have fin : ∀ (jump : Option Code) (W3 : World), KeepsOthers (w₁.putObj (w.heap.size + 1) (.loop { rec .ready none with state := .busy })) W3 →
            (Instr.endRound (w.heap.size + 1) jump).run P W3 = .ok (.bool jump.isNone) (W3.putObj (w.heap.size + 1) (.loop (rec (if jump.isNone then .ready else .done) jump))) ∧
            W3.heap[w.heap.size + 1]? = some (.loop { rec .ready none with state := .busy }) ∧
            (W3.putObj (w.heap.size + 1) (.loop (rec (if jump.isNone then .ready else .done) jump))).heap[w.heap.size + 1]? = some (.loop (rec (if jump.isNone then .ready else .done) jump)) ∧
            (W3.putObj (w.heap.size + 1) (.loop (rec (if jump.isNone then .ready else .done) jump))).heap[w.heap.size]? = some (.deferred (some [])) := fun jump W3 hk3 => by
          have hl3 := hk3.same _ _ hl2 rfl
          have := run_endRound (P := P) jump hl3
          rw [hrec] at this ⊢
          exact ⟨this, by rw [hrec] at hl3; exact hl3, World.putObj_heap_same (Array.getElem?_eq_some_iff.1 hl3).1, (World.putObj_heap_other (by omega)).trans (hk3.same _ _ hk2 rfl)⟩
        rintro e a3 W3 hp
        cases e with
        | normal =>
          obtain ⟨hk3, hkp3, hi3⟩ := hp
          obtain ⟨hr, hl3, hl4, hk4⟩ := fin none W3 hk3
          have hck3 := CK.putObj w.heap.size W3 (w.heap.size + 1) _ (.loop (rec (if (none : Option Code).isNone then .ready else .done) none)) hl3 rfl (by omega)
          exact ⟨_, _, hr, rfl, ⟨hIc _ _ _ hi3 hck3, hl4, hk4⟩, hKp _ _ _ hkp3 hck3⟩
        | _ => exact hp.elim
      | _ => exact hp.elim
    · rintro e W2 ⟨⟨v, rfl⟩, xs, hS, hi, hl, hk⟩
      exact ⟨none, _, by have := run_endLoop (P := P) hl (by rw [hrec]; simp); rw [hrec] at this; exact this, hdone xs _ hS (hIc _ _ _ hi (CK.putObj _ _ _ _ _ hl rfl (by omega))) ((World.putObj_heap_other (by omega)).trans hk)⟩

theorem wpIn_all {α : Type} {P : Program} {g : Operand} {ps : Array Tmp} {assign body : Code} {Q : Exit → Act → World → Prop} {a : Act} {w : World}
    {gf : Nat} {lb : Array Value} (hg : a.eval g = .func (.func gf) #[] lb) (eg : ∀ args w, (callFunc gf args).run P w = .ok (.enter gf args) w)
    {encs : α → Array Value} {St Kp : World → World → Prop} {Ok : List α → α → Prop} {S : List α → Prop} (hseq : IterAll P gf lb encs St Kp Ok S w)
    (hStO : ∀ A B, St A B → KeepsOthers A B) (hKp : ∀ A B C D, CK w.heap.size A B → Kp B C → CK w.heap.size C D → Kp A D) (hps : ∀ x, (encs x).size = ps.size)
    (I : List α → World → Prop)
    (hI : ∀ pre A B, I pre A → St A B → I pre B) (hIc : ∀ pre A B, I pre A → CK w.heap.size A B → I pre B)
    (h0 : I [] w)
    (hround : ∀ (l : Nat) (pre : List α) (x : α) (W : World), I pre W → Ok pre x →
      assign.wpIn (Fence.wide.inRound l) 0 P (Exit.then (fun a₁ w₁ => w₁ = W ∧ ∀ W2, CK w.heap.size W W2 → W2.heap.size = W.heap.size → I pre W2 → body.wpIn (Fence.wide.inRound l) 0 P (rpostA Kp I (pre ++ [x]) W2) a₁ W2) (fun _ _ _ => False))
        { tmps := (ps.zip (encs x)).foldl (fun t (p, v) => t.setIfInBounds p v) a.tmps, defers := [] } W)
    (hdone : ∀ (xs : List α) (W : World), S xs → I xs W → W.heap[w.heap.size]? = some (.deferred (some [])) → Q .normal { a with defers := { target := .collected w.heap.size, args := #[] } :: a.defers } W) :
    (Code.rangeFunc g ps assign body).wpIn Fence.wide 0 P Q a w :=
  wpIn_allB hg eg hseq hStO (fun A B C h k => hKp A A B C (CK.refl _ _) h k) hps I hI hIc h0
    (fun l pre x W hi hok => wpIn_mono (hround l pre x W hi hok) (fun e a₁ w₁ hp => by
      cases e with
      | normal =>
        obtain ⟨rfl, hb⟩ := hp
        refine ⟨KeepsOthers.refl _, id, fun W2 hck hsz hi2 => wpIn_mono (hb W2 hck hsz hi2) (fun e a w' hq => ?_)⟩
        cases e with
        | normal => exact ⟨hq.1, hKp _ _ _ _ hck hq.2.1 (CK.refl _ _), hq.2.2⟩
        | _ => exact hq
      | _ => exact hp)) hdone

theorem grew22 (w : World) (o p : Obj) : Grew w ((w.alloc o).alloc p) := ((Below.refl _ _).alloc (Nat.le_refl _) _).alloc (by simp) _
end Go.Proofs.YtbjoohafgkodcaaGreat
