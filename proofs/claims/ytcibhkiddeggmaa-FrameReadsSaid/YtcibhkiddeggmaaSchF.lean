/- Package schema: Find: contract. -/
import Derived.Test.YtcibhkiddeggmaaSchO
namespace Go.Proofs.Ytcibhkiddeggmaa
open Go Go.RowKit Go.Shelf
attribute [local go_sem] Oper.semAt_some

def isField (kind : Nat) (num : Int) (r : Row) : Bool := r.1 == kind && (r.2.1 : Int) == num
def foundV : Option Row → Array Value
  | some r => #[.agg (specV r).toArray, .bool true]
  | none => #[.agg #[.int .i64 0, .int .i64 0, .int .i64 0], .bool false]
/-- while Find looks -/
def FindI (kind : Nat) (num : Int) (w : World) (pre : List Row) (W : World) : Prop :=
  pre.find? (isField kind num) = none ∧ Blk W w.heap.size 5 #[.int .u8 kind] ∧ Blk W (w.heap.size + 1) 3 #[.int .i64 num] ∧ Blk W (w.heap.size + 1 + 1) 55 #[.int .i64 0, .int .i64 0, .int .i64 0] ∧ Blk W (w.heap.size + 1 + 1 + 1) 4 #[.bool false] ∧ Grew w W
theorem FindI.grew {kind : Nat} {num : Int} {w : World} {pre : List Row} {A B : World} (h : FindI kind num w pre A) (e : Grew A B) : FindI kind num w pre B := by
  obtain ⟨h0, h1, h2, h3, h4, h5⟩ := h
  exact ⟨h0, h1.grew e, h2.grew e, h3.grew e, h4.grew e, Grew.trans h5 e⟩
theorem FindI.ck {kind : Nat} {num : Int} {w : World} {pre : List Row} {n : Nat} {A B : World} (h : FindI kind num w pre A) (e : CK n A B) (hn : w.heap.size ≤ n) : FindI kind num w pre B := by
  obtain ⟨h0, h1, h2, h3, h4, h5⟩ := h
  exact ⟨h0, e.blk h1, e.blk h2, e.blk h3, e.blk h4, e.below h5 hn⟩
/-- when it has found -/
def FindX (kind : Nat) (num : Int) (w : World) (c : Code) (pre : List Row) (W : World) : Prop :=
  c = .ret ∧ ∃ r, pre.find? (isField kind num) = some r ∧ Blk W (w.heap.size + 1 + 1) 55 (specV r).toArray ∧ Blk W (w.heap.size + 1 + 1 + 1) 4 #[.bool true] ∧ Grew w W
theorem FindX.grew {kind : Nat} {num : Int} {w : World} {c : Code} {pre : List Row} {A B : World} (h : FindX kind num w c pre A) (e : Grew A B) : FindX kind num w c pre B := by
  obtain ⟨h0, r, h1, h2, h3, h4⟩ := h
  exact ⟨h0, r, h1, h2.grew e, h3.grew e, Grew.trans h4 e⟩
theorem FindX.ck {kind : Nat} {num : Int} {w : World} {c : Code} {pre : List Row} {n : Nat} {A B : World} (h : FindX kind num w c pre A) (e : CK n A B) (hn : w.heap.size ≤ n) : FindX kind num w c pre B := by
  obtain ⟨h0, r, h1, h2, h3, h4⟩ := h
  exact ⟨h0, r, h1, e.blk h2, e.blk h3, e.below h4 hn⟩
theorem find_prefix {α : Type} {p : α → Bool} {l m : List α} {r : α} (h : l <+: m) (hf : l.find? p = some r) : m.find? p = some r := by
  obtain ⟨t, rfl⟩ := h
  rw [List.find?_append, hf]; rfl

theorem results_cells2 {P : Program} {fn : Func} {p u : Tmp} {t1 t2 : TypeId} (h : fn.results = #[.cell p t1, .cell u t2]) (tmps : Array Value) (w : World) (a1 a2 : Addr) (v1 v2 : Value)
    (h1 : tmps.getD p undef = .pointer (some a1)) (h2 : tmps.getD u undef = .pointer (some a2)) (l1 : (loadVar t1 a1).run P w = .ok v1 w) (l2 : (loadVar t2 a2).run P w = .ok v2 w) :
    (results fn tmps).run P w = .ok (.tuple #[v1, v2]) w := by
  have h1' : tmps[p]?.getD undef = .pointer (some a1) := by simpa using h1
  have h2' : tmps[u]?.getD undef = .pointer (some a2) := by simpa using h2
  simp [results, h, h1', h2', asAddr, l1, l2]
theorem loadVar_bool (w : World) (b : Nat) (v : Value) (h : Blk w b 4 #[v]) : (loadVar 4 ⟨b, 0, none⟩).run Try.prog w = .ok v w := by
  have := h.cell 0
  simp at this
  unfold loadVar
  simp [go_sem, this]
theorem loadVar_spec (w : World) (b : Nat) (cs : Array Value) (hs : cs.size = 3) (h : Blk w b 55 cs) : (loadVar 55 ⟨b, 0, none⟩).run Try.prog w = .ok (.agg cs) w :=
  run_loadVar_row w b _ _ cs (0, 0) _ h Try.underlying55 rfl (by rw [hs]; kernel_rfl)

end Go.Proofs.Ytcibhkiddeggmaa
