/- resync.All, Ended, Passed, Whole and rescriptref14.Whole, Same. -/
import Derived.Test.YtoinndlialimcaaFrF
namespace Go.Proofs.Ytoinndlialimcaa
open Go Go.RowKit Go.Shelf

theorem all_any (l : List UInt8) (v : Value) (w : World) (hb : Bs w v l) (hlen : l.length ≤ 1000000000) :
    Calls Try.prog 24 #[v] w fun e w' => ∃ v', e = .returned (.tuple #[v', .int .i64 (walkL false l 0).2.2]) ∧ FOs w' w.heap.size v' (walkL false l 0).1 ∧ Grew w w' := by
  have k := walk_any l false v w hb hlen
  obtain ⟨a, n, c, rfl, hn⟩ := bs_shape hb
  generalize (walkL false l 0).1 = A at k ⊢
  generalize (walkL false l 0).2.1 = B at k
  generalize (walkL false l 0).2.2 = C at k ⊢
  have K := Lib.hid k
  clear k hb
  go_enter Try.func24, Try.ntmps24
  go_wp2_with fail
  refine K.out.mono ?_
  rintro e w1 ⟨v1, rfl, h1, g1⟩
  go_wp2
  go_ret2
  exact ⟨_, rfl, h1, g1⟩
theorem ended_any (l : List UInt8) (v : Value) (w : World) (hb : Bs w v l) (hlen : l.length ≤ 1000000000) :
    Calls Try.prog 28 #[v] w fun e w' => ∃ v', e = .returned v' ∧ FOs w' w.heap.size v' (walkL true l 0).1 ∧ Grew w w' := by
  have k := walk_any l true v w hb hlen
  obtain ⟨a, n, c, rfl, hn⟩ := bs_shape hb
  generalize (walkL true l 0).1 = A at k ⊢
  generalize (walkL true l 0).2.1 = B at k
  generalize (walkL true l 0).2.2 = C at k
  have K := Lib.hid k
  clear k hb
  go_enter Try.func28, Try.ntmps28
  go_wp2_with fail
  refine K.out.mono ?_
  rintro e w1 ⟨v1, rfl, h1, g1⟩
  go_wp2
  go_ret
  exact ⟨_, rfl, h1, g1⟩
theorem passed_any (l : List UInt8) (v : Value) (w : World) (hb : Bs w v l) (hlen : l.length ≤ 1000000000) :
    Calls Try.prog 25 #[v] w fun e w' => e = .returned (.int .i64 (walkL false l 0).2.1) ∧ Grew w w' := by
  have k := walk_any l false v w hb hlen
  obtain ⟨a, n, c, rfl, hn⟩ := bs_shape hb
  generalize (walkL false l 0).1 = A at k
  generalize (walkL false l 0).2.1 = B at k ⊢
  generalize (walkL false l 0).2.2 = C at k
  have K := Lib.hid k
  clear k hb
  go_enter Try.func25, Try.ntmps25
  go_wp2_with fail
  refine K.out.mono ?_
  rintro e w1 ⟨v1, rfl, h1, g1⟩
  go_wp2
  go_ret
  exact ⟨rfl, g1⟩
/-- numbers as cells -/
def iv (l : List Nat) : List Value := l.map fun n => .int .i64 (n : Nat)
theorem iv_length (l : List Nat) : (iv l).length = l.length := by simp [iv]
theorem iv_get (l : List Nat) (j : Nat) (h : j < l.length) : (iv l)[j]? = some (.int .i64 (l[j] : Nat)) := by simp [iv, h]
abbrev OwnI (w : World) (base : Nat) (v : Value) (l : List Nat) : Prop := w.ownsRow base 3 1 v l.length (iv l)
theorem info_int : (Try.prog.info? 3).map (fun i => (i.zero, i.size, i.bytes)) = some (some (.int .i64 0), 1, 8) := by kernel_rfl
theorem wpList_pushI {W : World} {ops : Array Oper} {rest : List Oper} {o : Oper} {a : Act} {Q : Exit → Act → World → Prop} (hgd : o.guard = none) (s x : Operand)
    (ho : o.op = .call { callee := .builtin .append, args := #[s, x], argTypes := #[32, 32] })
    (base : Nat) (v : Value) (l : List Nat) (hs : a.eval s = v) (hown : OwnI W base v l) (xv : Value) (hx : a.eval x = xv) (m : Nat) (hsl : Sl W xv 1 1 [.int .i64 m])
    (hlen : l.length + 1 ≤ 1000000000000) (hbase : base ≤ W.heap.size)
    (h : ∀ v' w', OwnI w' base v' (l ++ [m]) → Below base W w' → W.grownBy w' v.ownBlock → wpList Try.prog ops Q rest (a.put o.dst v') w') : wpList Try.prog ops Q (o :: rest) a W := by
  obtain ⟨i0, hi, hz0, hz1, hz2⟩ := info_parts info_int
  exact wpList_app hgd s x 32 ho base 3 i0 (.int .i64 0) 1 8 Try.underlying32 hi hz0 hz1 hz2 rfl (by decide) v l.length (iv l) hs hown xv 1 [.int .i64 m] hx hsl (by intro u hu; simp at hu; subst hu; rfl) (by unfold maxLen; omega) (by omega) hbase
    fun v' w' h1 h2 => h v' w' (by rw [OwnI, List.length_append]; simpa [iv] using h1) (grownBy_below h2 hown hbase) h2

/-- the places below k at which frames stand -/
def wholeN (l : List UInt8) (k : Nat) : List Nat := (List.range k).filter fun i => ferr (l.drop i) == 0
theorem wholeN_yes (l : List UInt8) (k : Nat) (h : ferr (l.drop k) = 0) : wholeN l (k + 1) = wholeN l k ++ [k] := by simp [wholeN, List.range_succ, h]
theorem wholeN_no (l : List UInt8) (k : Nat) (h : ferr (l.drop k) ≠ 0) : wholeN l (k + 1) = wholeN l k := by simp [wholeN, List.range_succ, h]
theorem wholeN_le (l : List UInt8) (k : Nat) : (wholeN l k).length ≤ k := by
  have := List.length_filter_le (fun i => ferr (l.drop i) == 0) (List.range k); simpa [wholeN] using this
end Go.Proofs.Ytoinndlialimcaa
