/- Regions that draw their order: reads that may come late, and stores in a chain, inside a fence; results in three cells. No statement of the program. -/
import Derived.Test.YtbjoohafgkodcaaGreatWl1
namespace Go.Proofs.YtbjoohafgkodcaaGreat
open Go Go.RowKit Go.Shelf

/-- nothing but going on -/
def onlyN (Q : Exit → Act → World → Prop) : Exit → Act → World → Prop
  | .normal, a, w => Q .normal a w
  | _, _, _ => False
theorem wpIn_region_held {F : Fence} (hF : Open F) {m : Nat} {P : Program} {id : Nat} {Q : Exit → Act → World → Prop} {a : Act} {w : World} {ops : Array Oper} {S : World → Prop} (hm : P.follows .mixedOrders = true) (hd : noDefer ops = true) (hS : S w.drew)
    (h : S w.drew → wpAnyH P .any ops (onlyN Q) S ops.size (Array.replicate ops.size false) a w.drew) : (Code.region id ops true).wpIn F m P Q a w :=
  wpIn_mono (wpIn_region_any hm (wpAnyIn_of hF (fun ⟨_, _, h⟩ => h) (noDefer_spec hd) _ _ _ _ (wpAny_of_held _ _ _ _ (h hS)))) (fun e a w h => by
    cases e with
    | normal => exact h
    | _ => exact h.elim)
theorem wp_region_heldN {P : Program} {id : Nat} {Q : Exit → Act → World → Prop} {a : Act} {w : World} {ops : Array Oper} {S : World → Prop} (hm : P.follows .mixedOrders = true) (hS : S w.drew)
    (h : S w.drew → wpAnyH P .any ops (onlyN Q) S ops.size (Array.replicate ops.size false) a w.drew) : (Code.region id ops true).wp P Q a w :=
  wp_mono (wp_region_held_drew hm hS h) (fun e a w h => by
    cases e with
    | normal => exact h
    | _ => exact h.elim)
/-- a whole row is read -/
theorem y_row {P : Program} {ops : Array Oper} {S : World → Prop} {a : Act} {o : Oper} (ty : TypeId) (x : Operand) (ho : o.op = .load ty x) (g : Nat) (hx : a.eval x = .pointer (some ⟨g, 0, none⟩)) (t : TypeId) (cs : Array Value) (d : TypeDesc) (hb : ∀ W, S W → Blk W g t cs)
    (hu : P.underlying ty = some d) (hd : (match d with | .struct _ | .array _ _ => true | _ => false) = true) (hi : (P.info? ty).map (·.size) = some cs.size) (hw : Region.wanted o (yielded ops a.tmps) = true) : YieldsIf P ops S o (.agg cs) a := by
  refine .inl ⟨hw, fun W hW => ?_⟩
  unfold execOp
  simp only [ho, hx, Instr.loadAt, Instr.sureAddr, Sem.run_bind, Sem.run_pure, Result.andThen_ok, run_loadVar_row W g t ty cs (0, 0) d (hb W hW) hu hd hi]
/-- a cell is read -/
theorem y_cell {P : Program} {ops : Array Oper} {S : World → Prop} {a : Act} {o : Oper} {v : Value} (h : ∀ W, S W → (execOp a.eval o).run P W = .ok (.value v) W) (hw : Region.wanted o (yielded ops a.tmps) = true) : YieldsIf P ops S o v a := .inl ⟨hw, h⟩
theorem Blk.rowOther {w : World} {b c : Nat} {t : TypeId} {cs new : Array Value} (h : Blk w c t cs) (hne : c ≠ b) : Blk (w.setRow b new) c t cs := (setRow_other w b c new hne).trans h
theorem results_ccc {P : Program} {fn : Func} {p u q : Tmp} {t1 t2 t3 : TypeId} (h : fn.results = #[.cell p t1, .cell u t2, .cell q t3]) (tmps : Array Value) (w : World) (a1 a2 a3 : Addr) (v1 v2 v3 : Value)
    (h1 : tmps.getD p undef = .pointer (some a1)) (h2 : tmps.getD u undef = .pointer (some a2)) (h3 : tmps.getD q undef = .pointer (some a3)) (e1 : (loadVar t1 a1).run P w = .ok v1 w) (e2 : (loadVar t2 a2).run P w = .ok v2 w) (e3 : (loadVar t3 a3).run P w = .ok v3 w) :
    (results fn tmps).run P w = .ok (.tuple #[v1, v2, v3]) w := by
  have h1' : tmps[p]?.getD undef = .pointer (some a1) := by simpa using h1
  have h2' : tmps[u]?.getD undef = .pointer (some a2) := by simpa using h2
  have h3' : tmps[q]?.getD undef = .pointer (some a3) := by simpa using h3
  simp [results, h, h1', h2', h3', asAddr, e1, e2, e3]
/-- a fault's two cells are stored -/
theorem wp_store_pair {P : Program} {o : Oper} {a : Act} {w : World} {K : Act → World → Prop} {Q : Exit → Act → World → Prop} (ty : TypeId) (x y : Operand) (ho : o.op = .store ty x y)
    (g : Nat) (u0 u1 : Value) (hx : a.eval x = .pointer (some ⟨g, 0, none⟩)) (hy : a.eval y = .agg #[u0, u1]) (t : TypeId) (old : Array Value) (hg : Blk w g t old) (hi : (P.info? ty).map (·.size) = some 2)
    (hold : old.size = 2) (h1 : u0.oneCell' = true) (h2 : u1.oneCell' = true) (h : K (a.put o.dst undef) (w.setRow g #[u0, u1])) : o.wp P a w K Q :=
  wp_store_row ty x y ho g #[u0, u1] hx hy t old hg hi hold (by simp [h1, h2]) h
/-- a slice is stored -/
theorem wp_store_slice {P : Program} {o : Oper} {a : Act} {w : World} {K : Act → World → Prop} {Q : Exit → Act → World → Prop} (ty : TypeId) (x y : Operand) (ho : o.op = .store ty x y)
    (g : Nat) (ad : Option Addr) (n c : Nat) (hx : a.eval x = .pointer (some ⟨g, 0, none⟩)) (hy : a.eval y = .slice ad n c) (t : TypeId) (old : Value) (hg : Blk w g t #[old]) (hi : (P.info? ty).map (·.size) = some 1)
    (h : K (a.put o.dst undef) (w.setCell ⟨g, 0, none⟩ (.slice ad n c))) : o.wp P a w K Q := by
  have c0 := hg.cell 0
  have f0 := hg.frozen 0
  simp only [List.getElem?_toArray, List.getElem?_cons_zero] at c0
  unfold Oper.wp execOp
  simp only [ho, hx, hy, Instr.storeAt, Instr.sureAddr, Sem.run_bind, Sem.run_pure, Result.andThen_ok]
  cases hq : P.info? ty with
  | none => simp [hq] at hi
  | some i =>
    have hs : i.size = 1 := by simp [hq] at hi; omega
    simp [go_sem, c0, f0, sizeOf, typeInfo, hq, hs]
    exact h
end Go.Proofs.YtbjoohafgkodcaaGreat
