/- The reference of layer 8: Of, Find, Specs: contracts. ; The reference of layer 8: Rows, Of, Find, Specs: contracts. -/
import Derived.Test.YtcibhkiddeggmaaSchF
import Derived.Deep.RegionHeld3
namespace Go.Proofs.Ytcibhkiddeggmaa
open Go Go.RowKit Go.Shelf

def rrowV (r : Row) : List Value := [.int .i64 r.2.1, .int .i64 r.2.2.1, .int .i64 r.2.2.2.1, .int .i64 r.2.2.2.2]
def rrowsV (l : List Row) : List Value := l.flatMap rrowV
abbrev Rs (w : World) (v : Value) (l : List Row) : Prop := Sl w v l.length 4 (rrowsV l)

end Go.Proofs.Ytcibhkiddeggmaa
namespace Go.Proofs.Ytcibhkiddeggmaa
open Go Go.RowKit Go.Shelf

/-- a cell of a list of equally long rows -/
theorem flat_get {α : Type} {f : α → List Value} {k : Nat} (hf : ∀ x, (f x).length = k) : ∀ (l : List α) (j : Nat) (hj : j < l.length) (i : Nat), i < k → (l.flatMap f)[j * k + i]? = (f l[j])[i]?
  | [], _, h, _, _ => absurd h (by simp)
  | x :: l, 0, _, i, hi => by
    simp only [List.flatMap_cons, Nat.zero_mul, Nat.zero_add, List.getElem_cons_zero]
    rw [List.getElem?_append_left (by rw [hf]; exact hi)]
  | x :: l, j + 1, h, i, hi => by
    have := flat_get hf l j (by simpa using h) i hi
    simp only [List.flatMap_cons, List.getElem_cons_succ]
    rw [List.getElem?_append_right (by rw [hf, Nat.succ_mul]; omega), hf, show (j + 1) * k + i - k = j * k + i by rw [Nat.succ_mul]; omega]
    exact this
theorem of_comm (k : Nat) (ver : Int) : ofKind k (rowsIn ver) = if ver < 1 ∨ 3 < ver then [] else (ofKind k rowsAll).filter (inV ver) := by
  unfold ofKind rowsIn
  split
  · rfl
  · rw [List.filter_filter, List.filter_filter]; congr 1; funext r; exact Bool.and_comm _ _
theorem ofKind_len (k : Nat) : (ofKind k rowsAll).length ≤ 40 := List.length_filter_le _ _

/-- append of field rows as one step of a region that draws -/
theorem step_pushS {ops : Array Oper} {o : Oper} {a : Act} {W : World} {K : Act → World → Prop} {Q : Exit → Act → World → Prop} {E : Prop} (hgd : o.guard = none) (s x : Operand)
    (ho : o.op = .call { callee := .builtin .append, args := #[s, x], argTypes := #[51, 51] })
    (base : Nat) (v : Value) (l : List Row) (hs : a.eval s = v) (hown : OwnS W base v l) (xv : Value) (hx : a.eval x = xv) (m : List Row) (hsl : Ss W xv m)
    (hlen : l.length + m.length ≤ 1000000) (hbase : base ≤ W.heap.size)
    (h : ∀ v' w', OwnS w' base v' (l ++ m) → Below base W w' → W.grownBy w' v.ownBlock → K (a.put o.dst v') w') :
    if Region.wanted o (yielded ops a.tmps) = true then Oper.wp Try.prog o a W K Q else E := by
  have hw : Region.wanted o (yielded ops a.tmps) = true := by simp [Region.wanted, hgd]
  rw [if_pos hw]
  obtain ⟨i0, hi, hz0, hz1, hz2⟩ := info_parts info_spec
  rcases hsl.shape with ⟨rfl, h0, h1⟩ | ⟨ad, cap, rfl, _, _, hl, hc⟩
  · have hrun := run_append_owned_none (P := Try.prog) (w := W) base 51 o.type 55 i0 3 Try.underlying51 hi v _ _ hown
    obtain rfl : m = [] := List.eq_nil_of_length_eq_zero h0
    unfold Oper.wp
    simp [execOp, ho, resolve, invoke, builtin, hs, hx, hrun, Result.andThen]
    exact h v W (by simpa using hown) (Below.refl _ _) (World.grownBy.refl _ _)
  · obtain ⟨v', w', hrun, r1, r2, _⟩ := run_append_own (P := Try.prog) W base 51 o.type 55 i0 _ 3 24 Try.underlying51 hi hz0 hz1 hz2 rfl (by decide) v _ _ hown ad _ cap (specsV m) hl hc (specsV_one m) (by unfold maxLen; omega) (by omega) hbase
    unfold Oper.wp
    simp [execOp, ho, resolve, invoke, builtin, hs, hx, hrun, Result.andThen]
    exact h v' w' (by rw [OwnS, specsV_append, List.length_append]; exact r1) (grownBy_below r2 hown hbase) r2

end Go.Proofs.Ytcibhkiddeggmaa
