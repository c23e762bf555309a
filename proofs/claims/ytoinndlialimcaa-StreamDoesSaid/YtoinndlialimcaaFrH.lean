/- rescriptref14.Same: rows of frames that were found, compared. -/
import Derived.Test.YtoinndlialimcaaFrG
namespace Go.Proofs.Ytoinndlialimcaa
open Go Go.RowKit Go.Shelf

/-- a row that is read -/
def FR (W : World) (v : Value) (ps : List FV) : Prop := Sl W v ps.length 3 (ps.flatMap fdv) ∧ ∀ p ∈ ps, Bs W p.2 p.1.2.2
theorem FR.grew {W W' : World} {v : Value} {ps : List FV} (h : FR W v ps) (g : Grew W W') : FR W' v ps := ⟨h.1.grew g, fun p hp => (h.2 p hp).grew g⟩
theorem FoundsV.fr {W : World} {base : Nat} {v : Value} {ps : List FV} (h : FoundsV W base v ps) : FR W v ps := ⟨Sl.of_own h.1, fun p hp => (h.2 p hp).1⟩
def FRs (W : World) (v : Value) (fs : List Fnd) : Prop := ∃ ps : List FV, ps.map (·.1) = fs ∧ FR W v ps
theorem FOs.frs {W : World} {base : Nat} {v : Value} {fs : List Fnd} (h : FOs W base v fs) : FRs W v fs := by obtain ⟨ps, e, h⟩ := h; exact ⟨ps, e, h.fr⟩
theorem FRs.grew {W W' : World} {v : Value} {fs : List Fnd} (h : FRs W v fs) (g : Grew W W') : FRs W' v fs := by obtain ⟨ps, e, h⟩ := h; exact ⟨ps, e, h.grew g⟩
/-- v[:m] -/
theorem FRs.take {W : World} {a : Option Addr} {n c : Nat} {fs : List Fnd} (h : FRs W (.slice a n c) fs) (m : Nat) (hm : m ≤ n) : FRs W (.slice a m c) (fs.take m) := by
  obtain ⟨ps, rfl, h1, h2⟩ := h
  have hn : n = ps.length := by obtain ⟨_, _, _, e, _⟩ := h1; cases e; rfl
  subst hn
  refine ⟨ps.take m, by rw [List.map_take], ?_, fun p hp => h2 p (List.mem_of_mem_take hp)⟩
  have := Sl.take h1 m hm
  rw [List.length_take, Nat.min_eq_left hm]
  have e : (ps.flatMap fdv).take (m * 3) = (ps.take m).flatMap fdv := by
    have hl : ((ps.take m).flatMap fdv).length = m * 3 := by
      have : ∀ q : List FV, (q.flatMap fdv).length = q.length * 3 := by
        intro q; induction q with
        | nil => rfl
        | cons x q ih => rw [List.flatMap_cons, List.length_append, ih, List.length_cons]; simp [fdv]; omega
      rw [this, List.length_take, Nat.min_eq_left hm]
    have : ps.flatMap fdv = (ps.take m).flatMap fdv ++ (ps.drop m).flatMap fdv := by rw [← List.flatMap_append, List.take_append_drop]
    rw [this, ← hl, List.take_left]
  rw [e] at this; exact this
/-- the cells of element j, wherever the row lies -/
theorem fr_cells {W : World} {b off : Nat} {n c : Nat} {ps : List FV} (h : FR W (.slice (some ⟨b, off, none⟩) n c) ps) (j : Nat) (hj : j < ps.length) :
    W.cell? ⟨b, off + j * 3, none⟩ = some (.int .i64 (ps[j].1.1 : Nat)) ∧ W.cell? ⟨b, off + j * 3 + 1, none⟩ = some (.int .u8 (ps[j].1.2.1.toNat : Int)) ∧ W.cell? ⟨b, off + j * 3 + 2, none⟩ = some ps[j].2 ∧ Bs W ps[j].2 ps[j].1.2.2 := by
  obtain ⟨a, cap, e, -, -, -, h4⟩ := h.1.open
  cases e
  obtain ⟨b', o', e, hc⟩ := h4 (by omega)
  cases e
  have g := fun i hi => flat_at (f := fdv) (k := 3) (fun _ => rfl) ps j hj i hi
  have g0 := hc (j * 3) _ (g 0 (by omega))
  have g1 := hc (j * 3 + 1) _ (g 1 (by omega))
  have g2 := hc (j * 3 + 2) _ (g 2 (by omega))
  simp only [← Nat.add_assoc] at g0 g1 g2
  exact ⟨g0, g1, g2, h.2 _ (List.getElem_mem hj)⟩

end Go.Proofs.Ytoinndlialimcaa
