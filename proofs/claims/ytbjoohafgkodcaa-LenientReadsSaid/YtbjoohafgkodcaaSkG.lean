/- rescriptref06.Like, Bare, Same, rescriptlaw06.few: contracts. -/
import Derived.Test.YtbjoohafgkodcaaSkB
import Derived.Test.YtbjoohafgkodcaaFld
import Derived.Test.YtbjoohafgkodcaaItw
namespace Go.Proofs.Ytbjoohafgkodcaa
open Go Go.RowKit Go.Shelf
attribute [local go_sem] Oper.semAt_some

set_option maxRecDepth 10000 in
set_option maxHeartbeats 1000000 in
theorem like_any (a b : Fld) (va vb : Value) (w : World) (ha : Bs w va (fB a)) (hb : Bs w vb (fB b)) :
    Calls Try.prog 42 #[fldA a va, fldA b vb] w fun e w' => e = .returned (.bool (likeF a b)) ∧ Grew w w' := by
  obtain ⟨n1, w1, k1, l1, p1⟩ := a
  obtain ⟨n2, w2, k2, l2, p2⟩ := b
  have gw : ∀ c1 c2, Grew w ((w.alloc (.cells c1 44)).alloc (.cells c2 44)) := fun _ _ => ((Below.refl _ _).alloc (Nat.le_refl _) _).alloc (by simp) _
  unfold likeF
  simp only [fldA, fB] at ha hb ⊢
  by_cases h1 : n1 = n2
  · subst h1
    by_cases h2 : w1 = w2
    · subst h2
      by_cases h3 : k1 = k2
      · subst h3
        have KS := Lib.hid (fun W hW => same_any l1 l2 va vb W (ha.grew hW) (hb.grew hW))
        go_enter Try.func42, Try.ntmps42
        go_wp2_with fail
        refine (KS.out _ (gw _ _)).mono ?_
        rintro e w1 ⟨rfl, hd⟩
        go_wp2
        go_ret
        exact ⟨ret_bool (by simp), (gw _ _).trans hd.grew⟩
      · have q : ((k1 : Int) == (k2 : Int)) = false := by simp; omega
        have H3 := Lib.hid h3
        clear h3
        go_enter Try.func42, Try.ntmps42
        go_wp2
        go_ret
        exact ⟨ret_bool (by simp [H3.out]), gw _ _⟩
    · have q : ((w1 : Int) == (w2 : Int)) = false := by simp; omega
      have H3 := Lib.hid h2
      clear h2
      go_enter Try.func42, Try.ntmps42
      go_wp2
      go_ret
      exact ⟨ret_bool (by simp [H3.out]), gw _ _⟩
  · have q : (n1 == n2) = false := by simp; omega
    have H3 := Lib.hid h1
    clear h1
    go_enter Try.func42, Try.ntmps42
    go_wp2
    go_ret
    exact ⟨ret_bool (by simp [H3.out]), gw _ _⟩
def fewF (fs : List Fld) : Bool := decide (fs.length ≤ 40) && fs.all fun f => decide ((fB f).length ≤ 1000)
end Go.Proofs.Ytbjoohafgkodcaa
