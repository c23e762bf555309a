/- CrcParts and CrcSeals, walked. -/
import Derived.Test.YtgoaijpckckdnaaCrcL
namespace Go.Proofs.Ytgoaijpckckdnaa
open Go Go.RowKit Go.Shelf

theorem csum_more (a b : List UInt8) : cfrom (csum a ^^^ 4294967295) b ^^^ 4294967295 = csum (a ++ b) := by
  unfold csum
  rw [Nat.xor_assoc, Nat.xor_self, Nat.xor_zero, ← cfrom_append]


theorem cseal_length (l : List UInt8) : (cseal l).length = l.length + 4 := by simp [cseal, le32]
theorem copen_cseal (l : List UInt8) : copen (cseal l) = (l, 0) := by
  have h1 : (cseal l).take ((cseal l).length - 4) = l := by rw [cseal_length]; simp [cseal]
  unfold copen
  rw [if_neg (by rw [cseal_length]; omega), h1, if_pos rfl]


end Go.Proofs.Ytgoaijpckckdnaa
