/- Contract of rescriptref05.Bytes. -/
import Derived.Test.YtgoaijpckckdnaaFix
namespace Go.Proofs.Ytgoaijpckckdnaa
open Go Go.RowKit Go.Shelf

theorem rbytes5_any (l : List UInt8) (x : Value) (w : World) (hx : Bs w x l) (hl : l.length ≤ 100000000) : Calls Try.prog 120 #[x] w fun e w' => ∃ v, e = .returned v ∧ OwnB w' w.heap.size v (vput l.length ++ l) ∧ Grew w w' := by
  obtain ⟨a, c, rfl⟩ := bs_len hx
  have h10 := vput_len10 l.length (by omega)
  have H10 := Lib.hid h10
  clear h10
  go_enter Try.func120, Try.ntmps120
  go_wp2_with fail
  refine (rput_any l.length (by omega) _).mono ?_
  rintro e1 w1 ⟨v1, rfl, o1, g1⟩
  have s1 := Sl.of_own o1
  obtain ⟨a1, c1, rfl⟩ := bs_len s1
  go_wp2_with fail
  refine (join_any (vput l.length) l _ _ _ s1 (hx.grew g1) (by have := H10.out; omega)).mono ?_
  rintro e2 w2 ⟨v2, rfl, o2, g2⟩
  go_wp2
  go_ret
  exact ⟨_, rfl, own_mono o2 g1.size, Grew.trans g1 g2⟩

end Go.Proofs.Ytgoaijpckckdnaa
