/- Rows of frames that were found, and rescriptref14.Walk, Whole. -/
import Derived.Test.YtoinndlialimcaaFrS
namespace Go.Proofs.Ytoinndlialimcaa
open Go Go.RowKit Go.Shelf

/-- a frame that was found, and its payload's slice value -/
abbrev FV := Fnd × Value
def fdv (p : FV) : List Value := [.int .i64 (p.1.1 : Nat), .int .u8 (p.1.2.1.toNat : Int), p.2]
/-- a row of the call's own of frames that were found -/
def FoundsV (W : World) (base : Nat) (v : Value) (ps : List FV) : Prop := W.ownsRow base 57 3 v ps.length (ps.flatMap fdv) ∧ ∀ p ∈ ps, PayV W base p.2 p.1.2.2
theorem FoundsV.nil (W : World) (base : Nat) : FoundsV W base (.slice none 0 0) [] := ⟨World.ownsRow_nil _ _ _ _, fun p h => by cases h⟩
theorem FoundsV.grew {W W' : World} {base : Nat} {v : Value} {ps : List FV} (h : FoundsV W base v ps) (g : Grew W W') : FoundsV W' base v ps := ⟨own_grew h.1 g, fun p hp => (h.2 p hp).grew g⟩
theorem FoundsV.mono {W : World} {base base' : Nat} {v : Value} {ps : List FV} (h : FoundsV W base v ps) (hb : base' ≤ base) : FoundsV W base' v ps := ⟨own_mono h.1 hb, fun p hp => (h.2 p hp).mono hb⟩
/-- the frames alone -/
def FOs (W : World) (base : Nat) (v : Value) (fs : List Fnd) : Prop := ∃ ps : List FV, ps.map (·.1) = fs ∧ FoundsV W base v ps
theorem FOs.grew {W W' : World} {base : Nat} {v : Value} {fs : List Fnd} (h : FOs W base v fs) (g : Grew W W') : FOs W' base v fs := by obtain ⟨ps, e, h⟩ := h; exact ⟨ps, e, h.grew g⟩
theorem FOs.mono {W : World} {base base' : Nat} {v : Value} {fs : List Fnd} (h : FOs W base v fs) (hb : base' ≤ base) : FOs W base' v fs := by obtain ⟨ps, e, h⟩ := h; exact ⟨ps, e, h.mono hb⟩
theorem info_found : (Try.prog.info? 57).map (fun i => (i.zero, i.size, i.bytes)) = some (some (.agg #[.int .i64 0, .int .u8 0, .slice none 0 0]), 3, 40) := by kernel_rfl
theorem fdv_one (p : FV) {W : World} {base : Nat} {l : List UInt8} (hp : PayV W base p.2 l) : ∀ u ∈ fdv p, u.oneCell' = true := by
  obtain ⟨a, n, c, e, _⟩ := hp.shape
  intro u hu
  simp only [fdv, List.mem_cons, List.not_mem_nil, or_false] at hu
  rcases hu with rfl | rfl | rfl
  · rfl
  · rfl
  · rw [e]; rfl
theorem FoundsV.push {W w' : World} {base : Nat} {v v' : Value} {ps : List FV} {p : FV} (h : FoundsV W base v ps) (hp : PayV W base p.2 p.1.2.2)
    (h1 : w'.ownsRow base 57 3 v' (ps.length + 1) (ps.flatMap fdv ++ fdv p)) (h2 : W.grownBy w' v.ownBlock) : FoundsV w' base v' (ps ++ [p]) := by
  refine ⟨by rw [List.length_append, List.flatMap_append]; simpa using h1, fun q hq => ?_⟩
  rcases List.mem_append.1 hq with hq | hq
  · exact (h.2 q hq).below h2 (row_ne h.1 (by decide) (h.2 q hq))
  · obtain rfl := List.mem_singleton.1 hq
    exact hp.below h2 (row_ne h.1 (by decide) hp)
theorem wpList_pushF {W : World} {ops : Array Oper} {rest : List Oper} {o : Oper} {a : Act} {Q : Exit → Act → World → Prop} (hgd : o.guard = none) (s x : Operand)
    (ho : o.op = .call { callee := .builtin .append, args := #[s, x], argTypes := #[52, 52] })
    (base : Nat) (v : Value) (ps : List FV) (hs : a.eval s = v) (hown : FoundsV W base v ps) (xv : Value) (hx : a.eval x = xv) (p : FV) (hsl : Sl W xv 1 3 (fdv p)) (hp : PayV W base p.2 p.1.2.2)
    (hlen : ps.length + 1 ≤ 1000000000) (hbase : base ≤ W.heap.size)
    (h : ∀ v' w', FoundsV w' base v' (ps ++ [p]) → Below base W w' → W.grownBy w' v.ownBlock → wpList Try.prog ops Q rest (a.put o.dst v') w') : wpList Try.prog ops Q (o :: rest) a W := by
  obtain ⟨i0, hi, hz0, hz1, hz2⟩ := info_parts info_found
  exact wpList_app hgd s x 52 ho base 57 i0 (.agg #[.int .i64 0, .int .u8 0, .slice none 0 0]) 3 40 Try.underlying52 hi hz0 hz1 hz2 rfl (by decide) v ps.length _ hs hown.1 xv 1 (fdv p) hx hsl (fdv_one p hp) (by unfold maxLen; omega) (by omega) hbase
    fun v' w' h1 h2 => h v' w' (hown.push hp h1 h2) (grownBy_below h2 hown.1 hbase) h2
theorem wpListIn_pushF {F : Fence} {n : Nat} {W : World} {ops : Array Oper} {rest : List Oper} {o : Oper} {a : Act} {Q : Exit → Act → World → Prop} (hgd : o.guard = none) (s x : Operand)
    (ho : o.op = .call { callee := .builtin .append, args := #[s, x], argTypes := #[52, 52] })
    (base : Nat) (v : Value) (ps : List FV) (hs : a.eval s = v) (hown : FoundsV W base v ps) (xv : Value) (hx : a.eval x = xv) (p : FV) (hsl : Sl W xv 1 3 (fdv p)) (hp : PayV W base p.2 p.1.2.2)
    (hlen : ps.length + 1 ≤ 1000000000) (hbase : base ≤ W.heap.size)
    (h : ∀ v' w', FoundsV w' base v' (ps ++ [p]) → Below base W w' → W.grownBy w' v.ownBlock → wpListIn F n Try.prog ops Q rest (a.put o.dst v') w') : wpListIn F n Try.prog ops Q (o :: rest) a W := by
  obtain ⟨i0, hi, hz0, hz1, hz2⟩ := info_parts info_found
  exact wpListIn_app hgd s x 52 ho base 57 i0 (.agg #[.int .i64 0, .int .u8 0, .slice none 0 0]) 3 40 Try.underlying52 hi hz0 hz1 hz2 rfl (by decide) v ps.length _ hs hown.1 xv 1 (fdv p) hx hsl (fdv_one p hp) (by unfold maxLen; omega) (by omega) hbase
    fun v' w' h1 h2 => h v' w' (hown.push hp h1 h2) (grownBy_below h2 hown.1 hbase) h2
theorem fread_ok {l : List UInt8} (h : ferr l = 0) : fread l = (fof l, flen l + 9, 0) := by unfold fread; rw [if_pos h]
theorem fread_err (l : List UInt8) : (fread l).2.2 = ferr l := by
  unfold fread; split
  · rename_i h; exact h.symm
  · rfl

end Go.Proofs.Ytoinndlialimcaa
