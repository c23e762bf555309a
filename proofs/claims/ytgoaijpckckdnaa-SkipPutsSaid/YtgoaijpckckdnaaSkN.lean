/- skip.End: contract. -/
import Derived.Test.YtgoaijpckckdnaaSkO
namespace Go.Proofs.Ytgoaijpckckdnaa
open Go Go.RowKit Go.Shelf
attribute [local go_sem] Oper.semAt_some

/-- where the field at a place ends, or why there is none, and where -/
def endR (l : List UInt8) (at_ : Int) : Nat × Nat × Nat :=
  if at_ < 0 ∨ (l.length : Int) ≤ at_ then (0, 1, 0)
  else if (oneR l at_.toNat).2.1 ≠ 0 then (0, (oneR l at_.toNat).2.1, (oneR l at_.toNat).2.2.1)
  else ((oneR l at_.toNat).2.2.2, 0, 0)
set_option maxRecDepth 100000 in
set_option maxHeartbeats 4000000 in
theorem send_any (l : List UInt8) (v : Value) (at_ : Int) (h1 : -9223372036854775808 ≤ at_) (h2 : at_ ≤ 9223372036854775807) (w : World) (hb : Bs w v l) (hlen : l.length ≤ 1000000000) :
    Calls Try.prog 20 #[v, .int .i64 at_] w fun e w' => e = .returned (.tuple #[.int .i64 (endR l at_).1, faultV (endR l at_).2.1 (endR l at_).2.2]) ∧ Grew w w' := by
  obtain ⟨a, c, rfl⟩ := bs_len hb
  have ga := grew_alloc w (.cells #[.int .i64 0, .int .i64 0] 27)
  have k0 := Blk.new w 27 #[.int .i64 0, .int .i64 0]
  obtain ⟨E, hE⟩ : ∃ E, E = endR l at_ := ⟨_, rfl⟩
  rw [← hE]
  unfold endR at hE
  by_cases h0 : at_ < 0 ∨ (l.length : Int) ≤ at_
  · rw [if_pos h0] at hE
    subst hE
    by_cases hn : at_ < 0
    · clear h0
      go_enter Try.func20, Try.ntmps20
      go_wp2
      refine bodyPost_ret (results_tc rfl _ _ ⟨w.heap.size, 0, none⟩ _ _ rfl rfl (loadVar_fault _ _ _ rfl (Blk.new _ _ _))) rfl ?_
      exact ⟨rfl, grew_alloc _ _⟩
    · have hge : (l.length : Int) ≤ at_ := by omega
      clear h0
      go_enter Try.func20, Try.ntmps20
      go_wp2
      refine bodyPost_ret (results_tc rfl _ _ ⟨w.heap.size, 0, none⟩ _ _ rfl rfl (loadVar_fault _ _ _ rfl (Blk.new _ _ _))) rfl ?_
      exact ⟨rfl, grew_alloc _ _⟩
  rw [if_neg h0] at hE
  obtain ⟨k, rfl⟩ := Int.eq_ofNat_of_zero_le (show 0 ≤ at_ by omega)
  have hk : k < l.length := by omega
  rw [Int.toNat_natCast] at hE
  have hdn : ¬ ((k : Int) < 0) := by omega
  have hd2 : ¬ ((l.length : Int) ≤ (k : Int)) := by omega
  have HE := Lib.hid hE
  have HK := Lib.hid hk
  clear hE h0 h1 h2
  have HB := Lib.hid hb
  go_enter Try.func20, Try.ntmps20
  go_wp2_with fail
  refine (inew_any l _ _ (HB.out.grew ga) (by omega)).mono ?_
  rintro e w1 ⟨p, v0, rfl, hp, hI, ho, g1⟩
  have k1 := k0.grew g1
  have hp2 : w.heap.size < p := by simp at hp; omega
  clear ho
  go_wp2_with fail
  refine (itake_any l p 0 k (by omega) hlen _ hI).mono ?_
  have hT : takeR l 0 k = (l.take k, 0, k) := by
    unfold takeR cutR
    rw [if_neg (by omega), if_neg (by have := HK.out; simp; omega)]; simp
  rw [hT]
  rintro e w2 ⟨v2, rfl, ho2, hI2, hF2⟩
  obtain ⟨a2, c2, rfl⟩ := bs_len (Sl.of_own ho2)
  have hI3 := hI2.grew (grew_alloc w2 (.cells #[.int .i64 0, .int .i64 0] 27))
  have k2 := (k1.fr hF2 (by omega))
  have hz2 := hF2.size
  have hz1 := g1.size
  have G2 : Grew w w2 := hF2.grew (ga.trans g1) (fun i e => by omega)
  clear ho2 hI hI2 hT
  go_wp2_with fail
  refine (skone_any l p k hlen _ hI3).mono ?_
  obtain ⟨X, hX⟩ : ∃ X, X = oneR l k := ⟨_, rfl⟩
  rw [← hX]
  rintro e w3 ⟨v3, rfl, ho3, hI4, hF3⟩
  obtain ⟨a3, n3, c3, rfl, hn3⟩ := bs_shape (Sl.of_own ho3)
  have g0 := grew_alloc w2 (.cells #[.int .i64 0, .int .i64 0] 27)
  have G3 : Grew w w3 := hF3.grew (G2.trans g0) (fun i e => by omega)
  have k3 := (k2.grew g0).fr hF3 (by omega)
  have g4 : Grew w3 ((w3.alloc (.cells #[.int .i64 X.1.1, .int .u8 (X.1.2.1 : Nat), .int .u64 (X.1.2.2.1 : Nat), .slice a3 n3 c3, .int .i64 X.1.2.2.2.2] 39)).alloc (.cells #[.int .i64 (X.2.1 : Nat), .int .i64 (X.2.2.1 : Nat)] 27)) := ((Below.refl _ _).alloc (Nat.le_refl _) _).alloc (by simp) _
  have hI5 := hI4.grew g4
  have k4 := k3.grew g4
  have G4 := G3.trans g4
  have hz3 := G3.size
  have HX := Lib.hid hX
  have HE' := Lib.hid (by have := HE.out; rw [← hX] at this; exact this)
  obtain ⟨u0, u1, u2, u3⟩ := cells_of k4
  have HI5 := Lib.hid hI5
  clear hX HE ho3 hI4 hI3 k1 k2 k3 g0 hI5
  by_cases he : X.2.1 ≠ 0
  · have hne : ((X.2.1 : Int) != 0) = true := by simp; omega
    have HE2 := Lib.hid (by have := HE'.out; rw [if_pos he] at this; exact this)
    clear he HE'
    go_wp2_with fail
    go_region
    all_goals
      go_wp2
      have r1 := ((k4.set 0 (.int .i64 (X.2.1 : Nat))).set 1 (.int .i64 (X.2.2.1 : Nat))).drew
      refine bodyPost_ret (results_tc rfl _ _ ⟨w.heap.size, 0, none⟩ _ _ rfl rfl (loadVar_fault _ _ _ rfl r1)) rfl ?_
      rw [HE2.out]
      exact ⟨rfl, Below.trans (grew_set (grew_set G4 (Nat.le_refl _) _) (Nat.le_refl _) _) ((Drew.grew ⟨1, rfl⟩ : Grew _ _).mono (by simp; omega))⟩
  · have hne : ((X.2.1 : Int) != 0) = false := by simp; omega
    have HE2 := Lib.hid (by have := HE'.out; rw [if_neg he] at this; exact this)
    clear he HE'
    go_wp2_with fail
    refine (at_any l p X.2.2.2 _ HI5.out).mono ?_
    rintro e w5 ⟨rfl, rfl⟩
    go_wp2
    have r1 := (k4.set 0 (.int .i64 0)).set 1 (.int .i64 0)
    refine bodyPost_ret (results_tc rfl _ _ ⟨w.heap.size, 0, none⟩ _ _ rfl rfl (loadVar_fault _ _ _ rfl r1)) rfl ?_
    rw [HE2.out]
    exact ⟨rfl, grew_set (grew_set G4 (Nat.le_refl _) _) (Nat.le_refl _) _⟩
end Go.Proofs.Ytgoaijpckckdnaa
