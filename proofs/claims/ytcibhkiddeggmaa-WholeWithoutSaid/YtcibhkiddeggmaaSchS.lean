/- The reference of layer 8: Of, Find, Specs: contracts. ; The reference of layer 8: Rows, Of, Find, Specs: contracts. ; Package schema: Find: contract. -/
import Derived.Test.YtcibhkiddeggmaaSchP
import Derived.Deep.RegionHeld3
namespace Go.Proofs.Ytcibhkiddeggmaa
open Go Go.RowKit Go.Shelf
attribute [local go_sem] Oper.semAt_some

def isField (kind : Nat) (num : Int) (r : Row) : Bool := r.1 == kind && (r.2.1 : Int) == num
def foundV : Option Row → Array Value
  | some r => #[.agg (specV r).toArray, .bool true]
  | none => #[.agg #[.int .i64 0, .int .i64 0, .int .i64 0], .bool false]
/-- while Find looks -/
def FindI (kind : Nat) (num : Int) (w : World) (pre : List Row) (W : World) : Prop :=
  pre.find? (isField kind num) = none ∧ Blk W w.heap.size 5 #[.int .u8 kind] ∧ Blk W (w.heap.size + 1) 3 #[.int .i64 num] ∧ Blk W (w.heap.size + 1 + 1) 55 #[.int .i64 0, .int .i64 0, .int .i64 0] ∧ Blk W (w.heap.size + 1 + 1 + 1) 4 #[.bool false] ∧ Grew w W
theorem FindI.grew {kind : Nat} {num : Int} {w : World} {pre : List Row} {A B : World} (h : FindI kind num w pre A) (e : Grew A B) : FindI kind num w pre B := by
  obtain ⟨h0, h1, h2, h3, h4, h5⟩ := h
  exact ⟨h0, h1.grew e, h2.grew e, h3.grew e, h4.grew e, Grew.trans h5 e⟩
theorem FindI.ck {kind : Nat} {num : Int} {w : World} {pre : List Row} {n : Nat} {A B : World} (h : FindI kind num w pre A) (e : CK n A B) (hn : w.heap.size ≤ n) : FindI kind num w pre B := by
  obtain ⟨h0, h1, h2, h3, h4, h5⟩ := h
  exact ⟨h0, e.blk h1, e.blk h2, e.blk h3, e.blk h4, e.below h5 hn⟩
/-- when it has found -/
def FindX (kind : Nat) (num : Int) (w : World) (c : Code) (pre : List Row) (W : World) : Prop :=
  c = .ret ∧ ∃ r, pre.find? (isField kind num) = some r ∧ Blk W (w.heap.size + 1 + 1) 55 (specV r).toArray ∧ Blk W (w.heap.size + 1 + 1 + 1) 4 #[.bool true] ∧ Grew w W
theorem FindX.grew {kind : Nat} {num : Int} {w : World} {c : Code} {pre : List Row} {A B : World} (h : FindX kind num w c pre A) (e : Grew A B) : FindX kind num w c pre B := by
  obtain ⟨h0, r, h1, h2, h3, h4⟩ := h
  exact ⟨h0, r, h1, h2.grew e, h3.grew e, Grew.trans h4 e⟩
theorem FindX.ck {kind : Nat} {num : Int} {w : World} {c : Code} {pre : List Row} {n : Nat} {A B : World} (h : FindX kind num w c pre A) (e : CK n A B) (hn : w.heap.size ≤ n) : FindX kind num w c pre B := by
  obtain ⟨h0, r, h1, h2, h3, h4⟩ := h
  exact ⟨h0, r, h1, e.blk h2, e.blk h3, e.below h4 hn⟩
theorem find_prefix {α : Type} {p : α → Bool} {l m : List α} {r : α} (h : l <+: m) (hf : l.find? p = some r) : m.find? p = some r := by
  obtain ⟨t, rfl⟩ := h
  rw [List.find?_append, hf]; rfl

theorem results_cells2 {P : Program} {fn : Func} {p u : Tmp} {t1 t2 : TypeId} (h : fn.results = #[.cell p t1, .cell u t2]) (tmps : Array Value) (w : World) (a1 a2 : Addr) (v1 v2 : Value)
    (h1 : tmps.getD p undef = .pointer (some a1)) (h2 : tmps.getD u undef = .pointer (some a2)) (l1 : (loadVar t1 a1).run P w = .ok v1 w) (l2 : (loadVar t2 a2).run P w = .ok v2 w) :
    (results fn tmps).run P w = .ok (.tuple #[v1, v2]) w := by
  have h1' : tmps[p]?.getD undef = .pointer (some a1) := by simpa using h1
  have h2' : tmps[u]?.getD undef = .pointer (some a2) := by simpa using h2
  simp [results, h, h1', h2', asAddr, l1, l2]
theorem loadVar_bool (w : World) (b : Nat) (v : Value) (h : Blk w b 4 #[v]) : (loadVar 4 ⟨b, 0, none⟩).run Try.prog w = .ok v w := by
  have := h.cell 0
  simp at this
  unfold loadVar
  simp [go_sem, this]
theorem loadVar_spec (w : World) (b : Nat) (cs : Array Value) (hs : cs.size = 3) (h : Blk w b 55 cs) : (loadVar 55 ⟨b, 0, none⟩).run Try.prog w = .ok (.agg cs) w :=
  run_loadVar_row w b _ _ cs (0, 0) _ h Try.underlying55 rfl (by rw [hs]; kernel_rfl)

end Go.Proofs.Ytcibhkiddeggmaa
namespace Go.Proofs.Ytcibhkiddeggmaa
open Go Go.RowKit Go.Shelf

def rrowV (r : Row) : List Value := [.int .i64 r.2.1, .int .i64 r.2.2.1, .int .i64 r.2.2.2.1, .int .i64 r.2.2.2.2]
def rrowsV (l : List Row) : List Value := l.flatMap rrowV
abbrev Rs (w : World) (v : Value) (l : List Row) : Prop := Sl w v l.length 4 (rrowsV l)

end Go.Proofs.Ytcibhkiddeggmaa
namespace Go.Proofs.Ytcibhkiddeggmaa
open Go Go.RowKit Go.Shelf

/-- a cell of a list of equally long rows -/
theorem flat_get {α : Type} {f : α → List Value} {k : Nat} (hf : ∀ x, (f x).length = k) : ∀ (l : List α) (j : Nat) (hj : j < l.length) (i : Nat), i < k → (l.flatMap f)[j * k + i]? = (f l[j])[i]?
  | [], _, h, _, _ => absurd h (by simp)
  | x :: l, 0, _, i, hi => by
    simp only [List.flatMap_cons, Nat.zero_mul, Nat.zero_add, List.getElem_cons_zero]
    rw [List.getElem?_append_left (by rw [hf]; exact hi)]
  | x :: l, j + 1, h, i, hi => by
    have := flat_get hf l j (by simpa using h) i hi
    simp only [List.flatMap_cons, List.getElem_cons_succ]
    rw [List.getElem?_append_right (by rw [hf, Nat.succ_mul]; omega), hf, show (j + 1) * k + i - k = j * k + i by rw [Nat.succ_mul]; omega]
    exact this
theorem of_comm (k : Nat) (ver : Int) : ofKind k (rowsIn ver) = if ver < 1 ∨ 3 < ver then [] else (ofKind k rowsAll).filter (inV ver) := by
  unfold ofKind rowsIn
  split
  · rfl
  · rw [List.filter_filter, List.filter_filter]; congr 1; funext r; exact Bool.and_comm _ _
theorem ofKind_len (k : Nat) : (ofKind k rowsAll).length ≤ 40 := List.length_filter_le _ _

/-- append of field rows as one step of a region that draws -/
theorem step_pushS {ops : Array Oper} {o : Oper} {a : Act} {W : World} {K : Act → World → Prop} {Q : Exit → Act → World → Prop} {E : Prop} (hgd : o.guard = none) (s x : Operand)
    (ho : o.op = .call { callee := .builtin .append, args := #[s, x], argTypes := #[51, 51] })
    (base : Nat) (v : Value) (l : List Row) (hs : a.eval s = v) (hown : OwnS W base v l) (xv : Value) (hx : a.eval x = xv) (m : List Row) (hsl : Ss W xv m)
    (hlen : l.length + m.length ≤ 1000000) (hbase : base ≤ W.heap.size)
    (h : ∀ v' w', OwnS w' base v' (l ++ m) → Below base W w' → W.grownBy w' v.ownBlock → K (a.put o.dst v') w') :
    if Region.wanted o (yielded ops a.tmps) = true then Oper.wp Try.prog o a W K Q else E := by
  have hw : Region.wanted o (yielded ops a.tmps) = true := by simp [Region.wanted, hgd]
  rw [if_pos hw]
  obtain ⟨i0, hi, hz0, hz1, hz2⟩ := info_parts info_spec
  rcases hsl.shape with ⟨rfl, h0, h1⟩ | ⟨ad, cap, rfl, _, _, hl, hc⟩
  · have hrun := run_append_owned_none (P := Try.prog) (w := W) base 51 o.type 55 i0 3 Try.underlying51 hi v _ _ hown
    obtain rfl : m = [] := List.eq_nil_of_length_eq_zero h0
    unfold Oper.wp
    simp [execOp, ho, resolve, invoke, builtin, hs, hx, hrun, Result.andThen]
    exact h v W (by simpa using hown) (Below.refl _ _) (World.grownBy.refl _ _)
  · obtain ⟨v', w', hrun, r1, r2, _⟩ := run_append_own (P := Try.prog) W base 51 o.type 55 i0 _ 3 24 Try.underlying51 hi hz0 hz1 hz2 rfl (by decide) v _ _ hown ad _ cap (specsV m) hl hc (specsV_one m) (by unfold maxLen; omega) (by omega) hbase
    unfold Oper.wp
    simp [execOp, ho, resolve, invoke, builtin, hs, hx, hrun, Result.andThen]
    exact h v' w' (by rw [OwnS, specsV_append, List.length_append]; exact r1) (grownBy_below r2 hown hbase) r2

end Go.Proofs.Ytcibhkiddeggmaa
