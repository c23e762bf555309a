/- A range over a function whose elements are told of the world in which they are yielded. ; Regions that draw their order, whose operations only read, or call what only makes memory: one walk of the text's order. No statement of the program. -/
import Derived.Test.YtbjoohafgkodcaaGreatKit
namespace Go.Proofs.YtbjoohafgkodcaaGreat
open Go Go.RowKit Go.Shelf

/-- the worlds that grew out of w0 -/
def GC (w0 W : World) : Prop := Grew w0 W
theorem GC.out {w0 W : World} (h : GC w0 W) : Grew w0 W := h
theorem gc_mk {w0 W : World} (h : Grew w0 W) : GC w0 W := h
theorem gc_all (w0 : World) (p : Prop) : (∀ W, GC w0 W → p) ↔ p := ⟨fun h => h w0 (Below.refl _ _), fun h _ _ => h⟩
theorem wp_region_grew {P : Program} {id : Nat} {Q : Exit → Act → World → Prop} {a : Act} {w : World} {l : List Oper} (w0 : World) (h0 : Grew w0 w) (hm : P.follows .mixedOrders = true) (hB : Region.lexB .any l.toArray = true)
    (h : wpQuiet P l.toArray (GC w0) (fun a' => ∀ w', GC w0 w' → Q .normal a' w') l a) : (Code.region id l.toArray true).wp P Q a w :=
  wp_region_quiet (C := GC w0) hm hB (gc_mk (h0.trans (Drew.grew ⟨1, rfl⟩))) (by simpa using h)
theorem wpIn_region_grew {F : Fence} (hF : Open F) {m : Nat} {P : Program} {id : Nat} {Q : Exit → Act → World → Prop} {a : Act} {w : World} {l : List Oper} (w0 : World) (h0 : Grew w0 w) (hQ : ¬ LetsOut Q) (hm : P.follows .mixedOrders = true) (hB : Region.lexB .any l.toArray = true) (hd : noDefer l.toArray = true)
    (h : wpQuiet P l.toArray (GC w0) (fun a' => ∀ w', GC w0 w' → Q .normal a' w') l a) : (Code.region id l.toArray true).wpIn F m P Q a w := by
  simp only [Region.lexB, Bool.and_eq_true] at hB
  refine wpIn_region_any hm (wpAnyIn_of hF hQ (noDefer_spec hd) _ _ _ _ (wpAny_of_quiet (C := GC w0) (Q := fun a' => ∀ w', GC w0 w' → Q .normal a' w') (fun _ w' hw' h => h w' hw') _ _ _ _ (gc_mk (h0.trans (Drew.grew ⟨1, rfl⟩))) ?_))
  have := wpAnyQ_lex (C := GC w0) (md := .any) hB.1 l 0 (Array.replicate l.toArray.size false) a (by simp) (by simpa using hB.2) h
  simpa using this
section
variable {P : Program} {ops : Array Oper} {C : World → Prop} {a : Act} {o : Oper}
/-- a whole block is read -/
theorem q_row {w0 : World} {K : Act → Prop} (ty : TypeId) (x : Operand) (ho : o.op = .load ty x) (g : Nat) (hx : a.eval x = .pointer (some ⟨g, 0, none⟩)) (t : TypeId) (cs : Array Value) (d : TypeDesc) (hb : Blk w0 g t cs)
    (hu : P.underlying ty = some d) (hd : (match d with | .struct _ | .array _ _ => true | _ => false) = true) (hi : (P.info? ty).map (·.size) = some cs.size)
    (hk : K (a.put o.dst (.agg cs))) : o.quiet P a (GC w0) K := by
  refine ⟨_, fun W hW => ?_, hk⟩
  have hg : W.heap[g]? = some (.cells cs t (0, 0)) := hb.grew hW.out
  unfold Oper.quietAt execOp
  simp only [ho, hx, Instr.loadAt, Instr.sureAddr, Sem.run_bind, Sem.run_pure, Result.andThen_ok, run_loadVar_row W g t ty cs (0, 0) d hg hu hd hi]
  exact ⟨rfl, rfl⟩
/-- a call whose result is known, and which only makes memory -/
theorem q_calls {w0 : World} {W : World} {f : FuncId} {args : Array Value} {v : Value} {R : Ending → World → Prop} (hW : GC w0 W) (h : Calls P f args W R) (hr : ∀ e w', R e w' → e = .returned v ∧ Grew W w') : Calls P f args W fun e w' => e = .returned v ∧ GC w0 w' :=
  h.mono fun e w' hh => ⟨(hr e w' hh).1, gc_mk (hW.out.trans (hr e w' hh).2)⟩
end
end Go.Proofs.YtbjoohafgkodcaaGreat
namespace Go.Proofs.YtbjoohafgkodcaaGreat
open Go Go.RowKit Go.Shelf

/-- what an iterator's function value promises, when the loop over it begins in world w: it yields elements one by one ('Ok pre x': x may come behind pre), its own steps are 'St', a round that goes on keeps 'Kp'; in the end all have come ('S'), or a round has said 'no more' ('Sp') -/
def IterW {α : Type} (P : Program) (gf : Nat) (lb : Array Value) (encs : α → Array Value) (St Kp : World → World → Prop) (Ok : List α → α → World → Prop) (S Sp : List α → Prop) (w : World) : Prop :=
  ∀ (l : Nat) (J Jx : List α → World → Prop) (W : World), Grew w W →
    (∀ pre A B, J pre A → St A B → J pre B) → (∀ pre A B, Jx pre A → St A B → Jx pre B) →
    (∀ pre x W1, J pre W1 → Ok pre x W1 → YieldAt Fence.wide 0 P l (encs x) W1 fun e W' =>
      (e = .returned (.bool true) ∧ J (pre ++ [x]) W' ∧ Kp W1 W') ∨ (e = .returned (.bool false) ∧ Jx (pre ++ [x]) W')) →
    J [] W →
    CallsIn Fence.wide 0 P gf (#[.func (.yield l) #[] #[]] ++ lb) W fun e W' => (∃ v, e = .returned v) ∧ ((∃ xs, S xs ∧ J xs W') ∨ (∃ pre, Sp pre ∧ Jx pre W'))

theorem wpIn_iterW {α : Type} {P : Program} {g : Operand} {ps : Array Tmp} {assign body : Code} {Q : Exit → Act → World → Prop} {a : Act} {w : World}
    {gf : Nat} {lb : Array Value} (hg : a.eval g = .func (.func gf) #[] lb) (eg : ∀ args w, (callFunc gf args).run P w = .ok (.enter gf args) w)
    {encs : α → Array Value} {St Kp : World → World → Prop} {Ok : List α → α → World → Prop} {S Sp : List α → Prop} (hseq : IterW P gf lb encs St Kp Ok S Sp w)
    (hStO : ∀ A B, St A B → KeepsOthers A B) (hKp : ∀ A B C, Kp A B → CK w.heap.size B C → Kp A C) (hps : ∀ x, (encs x).size = ps.size)
    (I : List α → World → Prop) (Ix : Code → List α → World → Prop)
    (hI : ∀ pre A B, I pre A → St A B → I pre B) (hIc : ∀ pre A B, I pre A → CK w.heap.size A B → I pre B)
    (hIx : ∀ c pre A B, Ix c pre A → St A B → Ix c pre B) (hIxc : ∀ c pre A B, Ix c pre A → CK w.heap.size A B → Ix c pre B)
    (h0 : I [] w)
    (hround : ∀ (l : Nat) (pre : List α) (x : α) (W : World), I pre W → Ok pre x W →
      assign.wpIn (Fence.wide.inRound l) 0 P (Exit.then (fun a₁ w₁ => KeepsOthers W w₁ ∧ (I pre W → I pre w₁) ∧ ∀ W2, CK w.heap.size w₁ W2 → W2.heap.size = w₁.heap.size → I pre W2 → body.wpIn (Fence.wide.inRound l) 0 P (rpostB (Kp W) I Ix (pre ++ [x]) W2) a₁ W2) (fun _ _ _ => False))
        { tmps := (ps.zip (encs x)).foldl (fun t (p, v) => t.setIfInBounds p v) a.tmps, defers := [] } W)
    (hdone : ∀ (xs : List α) (W : World), S xs → I xs W → W.heap[w.heap.size]? = some (.deferred (some [])) → Q .normal { a with defers := { target := .collected w.heap.size, args := #[] } :: a.defers } W)
    (hstop : ∀ (c : Code) (pre : List α) (W : World), Sp pre → Ix c pre W → W.heap[w.heap.size]? = some (.deferred (some [])) → c.wpIn Fence.wide 0 P Q { a with defers := { target := .collected w.heap.size, args := #[] } :: a.defers } W) :
    (Code.rangeFunc g ps assign body).wpIn Fence.wide 0 P Q a w := by
  refine wpIn_rangeFunc ?_
  intro fn hfn
  obtain ⟨rec, hrec⟩ : ∃ rec : LoopState → Option Code → Loop, rec = fun st pe => { state := st, pending := pe, fn, tmps := a.tmps, params := ps, assign, body, defers := w.heap.size } := ⟨_, rfl⟩
  obtain ⟨W1, hW1⟩ : ∃ W1, (w.alloc (.deferred (some []))).alloc (.loop (rec .ready none)) = W1 := ⟨_, rfl⟩
  have hL1 : W1.heap[w.heap.size + 1]? = some (.loop (rec .ready none)) := by
    rw [← hW1]; have := World.alloc_heap_new (w.alloc (.deferred (some []))) (.loop (rec .ready none)); rwa [World.size_alloc] at this
  have hK1 : W1.heap[w.heap.size]? = some (.deferred (some [])) := by
    rw [← hW1]; exact (Below.heap_alloc _ _ _ (by simp)).trans (World.alloc_heap_new w _)
  have hI1 : I [] W1 := by rw [← hW1]; exact hIc _ _ _ h0 ((CK.alloc _ _ _ (Nat.le_refl _)).trans (CK.alloc _ _ _ (by simp)))
  have hb1 : Grew w W1 := by rw [← hW1]; exact ((Below.refl _ w).alloc (Nat.le_refl _) _).alloc (by simp) _
  refine ⟨w.heap.size + 1, [{ target := .collected w.heap.size, args := #[] }], W1, { target := .fn (.func gf) lb, args := #[.func (.yield (w.heap.size + 1)) #[] #[]] }, W1, gf,
    #[.func (.yield (w.heap.size + 1)) #[] #[]] ++ lb, W1, ?_, ?_, ?_, ?_, (fun h => by simp [Fence.wide] at h), ?_⟩
  · rw [← hW1, hrec]; exact run_enterLoop_outer _ _ _ _ _
  · simp only [resolve, hg]
    simp [go_sem]
  · intro f' hf'; trivial
  · simp [invoke, go_sem, eg]
  · refine (hseq (w.heap.size + 1)
      (fun pre W => I pre W ∧ W.heap[w.heap.size + 1]? = some (.loop (rec .ready none)) ∧ W.heap[w.heap.size]? = some (.deferred (some [])))
      (fun pre W => ∃ c, Ix c pre W ∧ W.heap[w.heap.size + 1]? = some (.loop (rec .done (some c))) ∧ W.heap[w.heap.size]? = some (.deferred (some [])))
      W1 hb1
      (fun pre A B hs hst => ⟨hI _ _ _ hs.1 hst, (hStO _ _ hst).same _ _ hs.2.1 rfl, (hStO _ _ hst).same _ _ hs.2.2 rfl⟩)
      (fun pre A B hs hst => by
        obtain ⟨c, hc, hl, hk⟩ := hs
        exact ⟨c, hIx _ _ _ _ hc hst, (hStO _ _ hst).same _ _ hl rfl, (hStO _ _ hst).same _ _ hk rfl⟩)
      ?_ ⟨hI1, hL1, hK1⟩).mono ?_
    · rintro pre x W ⟨hi, hl, hk⟩ hok
      have hlt : w.heap.size + 1 < W.heap.size := (Array.getElem?_eq_some_iff.1 hl).1
      have hy := run_yield (P := P) (args := encs x) hl (by rw [hrec]; exact hps x)
      rw [hrec] at hy
      refine ⟨fn, _, assign, body, hy, roundIn_of_wpIn hfn (wpIn_mono (hround _ pre x W hi hok) ?_)⟩
      intro e a₁ w₁ hp
      cases e with
      | normal =>
        obtain ⟨hko, hi1, hb⟩ := hp
        replace hi := hi1 hi
        replace hl := hko.same _ _ hl rfl
        replace hk := hko.same _ _ hk rfl
        replace hlt : w.heap.size + 1 < w₁.heap.size := (Array.getElem?_eq_some_iff.1 hl).1
        have hl2 : (w₁.putObj (w.heap.size + 1) (.loop { rec .ready none with state := .busy })).heap[w.heap.size + 1]? = some (.loop { rec .ready none with state := .busy }) := World.putObj_heap_same hlt
        have hk2 : (w₁.putObj (w.heap.size + 1) (.loop { rec .ready none with state := .busy })).heap[w.heap.size]? = some (.deferred (some [])) := (World.putObj_heap_other (by omega)).trans hk
        have hck : CK w.heap.size w₁ (w₁.putObj (w.heap.size + 1) (.loop { rec .ready none with state := .busy })) := CK.putObj _ _ _ _ _ hl rfl (by omega)
        refine ⟨_, run_beginRound hl (by rw [hrec]), wpIn_mono (hb _ hck (by simp) (hIc _ _ _ hi hck)) ?_⟩
        have fin : ∀ (jump : Option Code) (W3 : World), KeepsOthers (w₁.putObj (w.heap.size + 1) (.loop { rec .ready none with state := .busy })) W3 →
            (Instr.endRound (w.heap.size + 1) jump).run P W3 = .ok (.bool jump.isNone) (W3.putObj (w.heap.size + 1) (.loop (rec (if jump.isNone then .ready else .done) jump))) ∧
            W3.heap[w.heap.size + 1]? = some (.loop { rec .ready none with state := .busy }) ∧
            (W3.putObj (w.heap.size + 1) (.loop (rec (if jump.isNone then .ready else .done) jump))).heap[w.heap.size + 1]? = some (.loop (rec (if jump.isNone then .ready else .done) jump)) ∧
            (W3.putObj (w.heap.size + 1) (.loop (rec (if jump.isNone then .ready else .done) jump))).heap[w.heap.size]? = some (.deferred (some [])) := fun jump W3 hk3 => by
          have hl3 := hk3.same _ _ hl2 rfl
          have := run_endRound (P := P) jump hl3
          rw [hrec] at this ⊢
          exact ⟨this, by rw [hrec] at hl3; exact hl3, World.putObj_heap_same (Array.getElem?_eq_some_iff.1 hl3).1, (World.putObj_heap_other (by omega)).trans (hk3.same _ _ hk2 rfl)⟩
        rintro e a3 W3 hp
        cases e with
        | normal =>
          obtain ⟨hk3, hkp3, hi3⟩ := hp
          obtain ⟨hr, hl3, hl4, hk4⟩ := fin none W3 hk3
          have hck3 := CK.putObj w.heap.size W3 (w.heap.size + 1) _ (.loop (rec (if (none : Option Code).isNone then .ready else .done) none)) hl3 rfl (by omega)
          exact ⟨_, _, hr, .inl ⟨rfl, ⟨hIc _ _ _ hi3 hck3, hl4, hk4⟩, hKp _ _ _ hkp3 hck3⟩⟩
        | ret =>
          obtain ⟨hk3, hi3⟩ := hp
          obtain ⟨hr, hl3, hl4, hk4⟩ := fin (some .ret) W3 hk3
          exact ⟨_, _, hr, .inr ⟨rfl, .ret, hIxc _ _ _ _ hi3 (CK.putObj _ _ _ _ _ hl3 rfl (by omega)), hl4, hk4⟩⟩
        | exit id =>
          obtain ⟨hk3, hi3⟩ := hp
          obtain ⟨hr, hl3, hl4, hk4⟩ := fin (some (.exit id)) W3 hk3
          exact ⟨_, _, hr, .inr ⟨rfl, .exit id, hIxc _ _ _ _ hi3 (CK.putObj _ _ _ _ _ hl3 rfl (by omega)), hl4, hk4⟩⟩
        | goto t =>
          obtain ⟨hk3, hi3⟩ := hp
          obtain ⟨hr, hl3, hl4, hk4⟩ := fin (some (.goto t)) W3 hk3
          exact ⟨_, _, hr, .inr ⟨rfl, .goto t, hIxc _ _ _ _ hi3 (CK.putObj _ _ _ _ _ hl3 rfl (by omega)), hl4, hk4⟩⟩
        | panic ch => exact hp.elim
        | outgrown => exact hp.elim
      | _ => exact hp.elim
    · rintro e W2 ⟨⟨v, rfl⟩, (⟨xs, hS, hi, hl, hk⟩ | ⟨pre, hSp, c, hi, hl, hk⟩)⟩
      · exact ⟨none, _, by have := run_endLoop (P := P) hl (by rw [hrec]; simp); rw [hrec] at this; exact this, hdone xs _ hS (hIc _ _ _ hi (CK.putObj _ _ _ _ _ hl rfl (by omega))) ((World.putObj_heap_other (by omega)).trans hk)⟩
      · exact ⟨some c, _, by have := run_endLoop (P := P) hl (by rw [hrec]; simp); rw [hrec] at this; exact this, hstop c pre _ hSp (hIxc _ _ _ _ hi (CK.putObj _ _ _ _ _ hl rfl (by omega))) ((World.putObj_heap_other (by omega)).trans hk)⟩

end Go.Proofs.YtbjoohafgkodcaaGreat
