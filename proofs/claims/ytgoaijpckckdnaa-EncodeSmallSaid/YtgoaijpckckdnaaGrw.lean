/- Regions that draw their order, whose operations only read, or call what only makes memory: one walk of the text's order. No statement of the program. -/
import Derived.Test.YtgoaijpckckdnaaKit
namespace Go.Proofs.Ytgoaijpckckdnaa
open Go Go.RowKit Go.Shelf

/-- the worlds that grew out of w0 -/
def GC (w0 W : World) : Prop := Grew w0 W
theorem GC.out {w0 W : World} (h : GC w0 W) : Grew w0 W := h
theorem gc_mk {w0 W : World} (h : Grew w0 W) : GC w0 W := h
theorem gc_all (w0 : World) (p : Prop) : (∀ W, GC w0 W → p) ↔ p := ⟨fun h => h w0 (Below.refl _ _), fun h _ _ => h⟩
theorem wp_region_grew {P : Program} {id : Nat} {Q : Exit → Act → World → Prop} {a : Act} {w : World} {l : List Oper} (w0 : World) (h0 : Grew w0 w) (hm : P.follows .mixedOrders = true) (hB : Region.lexB .any l.toArray = true)
    (h : wpQuiet P l.toArray (GC w0) (fun a' => ∀ w', GC w0 w' → Q .normal a' w') l a) : (Code.region id l.toArray true).wp P Q a w :=
  wp_region_quiet (C := GC w0) hm hB (gc_mk (h0.trans (Drew.grew ⟨1, rfl⟩))) (by simpa using h)
theorem wpIn_region_grew {F : Fence} (hF : Open F) {m : Nat} {P : Program} {id : Nat} {Q : Exit → Act → World → Prop} {a : Act} {w : World} {l : List Oper} (w0 : World) (h0 : Grew w0 w) (hQ : ¬ LetsOut Q) (hm : P.follows .mixedOrders = true) (hB : Region.lexB .any l.toArray = true) (hd : noDefer l.toArray = true)
    (h : wpQuiet P l.toArray (GC w0) (fun a' => ∀ w', GC w0 w' → Q .normal a' w') l a) : (Code.region id l.toArray true).wpIn F m P Q a w := by
  simp only [Region.lexB, Bool.and_eq_true] at hB
  refine wpIn_region_any hm (wpAnyIn_of hF hQ (noDefer_spec hd) _ _ _ _ (wpAny_of_quiet (C := GC w0) (Q := fun a' => ∀ w', GC w0 w' → Q .normal a' w') (fun _ w' hw' h => h w' hw') _ _ _ _ (gc_mk (h0.trans (Drew.grew ⟨1, rfl⟩))) ?_))
  have := wpAnyQ_lex (C := GC w0) (md := .any) hB.1 l 0 (Array.replicate l.toArray.size false) a (by simp) (by simpa using hB.2) h
  simpa using this
section
variable {P : Program} {ops : Array Oper} {C : World → Prop} {a : Act} {o : Oper}
/-- a whole block is read -/
theorem q_row {w0 : World} {K : Act → Prop} (ty : TypeId) (x : Operand) (ho : o.op = .load ty x) (g : Nat) (hx : a.eval x = .pointer (some ⟨g, 0, none⟩)) (t : TypeId) (cs : Array Value) (d : TypeDesc) (hb : Blk w0 g t cs)
    (hu : P.underlying ty = some d) (hd : (match d with | .struct _ | .array _ _ => true | _ => false) = true) (hi : (P.info? ty).map (·.size) = some cs.size)
    (hk : K (a.put o.dst (.agg cs))) : o.quiet P a (GC w0) K := by
  refine ⟨_, fun W hW => ?_, hk⟩
  have hg : W.heap[g]? = some (.cells cs t (0, 0)) := hb.grew hW.out
  unfold Oper.quietAt execOp
  simp only [ho, hx, Instr.loadAt, Instr.sureAddr, Sem.run_bind, Sem.run_pure, Result.andThen_ok, run_loadVar_row W g t ty cs (0, 0) d hg hu hd hi]
  exact ⟨rfl, rfl⟩
/-- a call whose result is known, and which only makes memory -/
theorem q_calls {w0 : World} {W : World} {f : FuncId} {args : Array Value} {v : Value} {R : Ending → World → Prop} (hW : GC w0 W) (h : Calls P f args W R) (hr : ∀ e w', R e w' → e = .returned v ∧ Grew W w') : Calls P f args W fun e w' => e = .returned v ∧ GC w0 w' :=
  h.mono fun e w' hh => ⟨(hr e w' hh).1, gc_mk (hW.out.trans (hr e w' hh).2)⟩
end
end Go.Proofs.Ytgoaijpckckdnaa
