/- rescripttop.awakeStream holds. -/
import Derived.Test.YtgdkgmpgkocnlaaStF
import Derived.Test.YtgdkgmpgkocnlaaFe4
namespace Go.Proofs.Ytgdkgmpgkocnlaa
open Go Go.RowKit Go.Shelf

def as0 : List UInt8 := fjoin [(1, []), (2, [7])]
def as1 : List UInt8 := as0.take 10
def as2 : List UInt8 := as0.drop 10
def ask : List UInt8 := as1.drop 9
theorem as_len : as0.length = 19 ∧ as1.length = 10 ∧ as2.length = 9 ∧ ask.length = 1 := by decide +kernel
theorem as_a : fdOut [] as1 0 false = [(0, (1, []))] ∧ fdK [] as1 false = ask ∧ fdN [] as1 0 false = 9 := by decide +kernel
theorem as_b : fdOut ask as2 9 false = [(9, (2, [7]))] := by decide +kernel
theorem as_f : framesM [(1, []), (2, [7])] = (as0, 0, 0) := framesM_ok (by decide)
theorem FdP.upS {t : TypeId} {base : Nat} {F : Nat → Prop} {p : Nat} {K K0 : List UInt8} {n n0 : Nat} {over over0 : Bool} {w0 w w' : World} (h : FdP t base F p K n over w w') (hd : FdS t base F w p K0 n0 over0) (g : Grew w0 w) (hb : w0.heap.size ≤ base) : Grew w0 w' := by
  obtain ⟨F', _, h2, _⟩ := h
  exact h2.grew g (fun i hi => Nat.le_trans hb (hd.own i hi).1)
end Go.Proofs.Ytgdkgmpgkocnlaa
