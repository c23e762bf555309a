/- rescriptref06.Fields: contract. -/
import Derived.Test.YtbjoohafgkodcaaGreatSkR
import Derived.Test.YtbjoohafgkodcaaGreatFld
namespace Go.Proofs.YtbjoohafgkodcaaGreat
open Go Go.RowKit Go.Shelf
attribute [local go_sem] Oper.semAt_some

set_option maxRecDepth 100000 in
set_option maxHeartbeats 4000000 in
theorem r06fields_any (l : List UInt8) (v : Value) (w : World) (hb : Bs w v l) (hlen : l.length ≤ 1000000000) :
    Calls Tryz.prog 50 #[v] w fun e w' => ∃ v', e = .returned (.tuple #[v', faultV (fieldsR l).2.1 (fieldsR l).2.2]) ∧ FlO w' w.heap.size v' (fieldsR l).1 ∧ Grew w w' := by
  obtain ⟨a, c, rfl⟩ := bs_len hb
  obtain ⟨w0, hw0⟩ : ∃ w0, w0 = (w.alloc (.cells #[.int .i64 0, .int .i64 0] 32)).alloc (.cells #[.slice a l.length c, .int .i64 0] 129) := ⟨_, rfl⟩
  have gw0 : Grew w w0 := by rw [hw0]; exact ((Below.refl _ _).alloc (Nat.le_refl _) _).alloc (by simp) _
  have hz0 : w0.heap.size = w.heap.size + 1 + 1 := by rw [hw0]; simp
  have k0 : Blk w0 w.heap.size 32 #[.int .i64 0, .int .i64 0] := by rw [hw0]; exact (Blk.new _ _ _).alloc _
  have k1 : InR (· = .slice a l.length c) w0 (w.heap.size + 1) l 0 := ⟨_, by rw [hw0]; exact Blk.at (by simp), hb.grew gw0, Nat.zero_le _, rfl⟩
  have HB := Lib.hid hb
  have GW := Lib.hid gw0
  have HZ := Lib.hid hz0
  clear hb gw0 hz0
  go_enter Tryz.func50, Tryz.ntmps50
  go_wp2
  try rw [← hw0]
  clear hw0
  go_loopw [5] (fun vo wr => ∃ (k : Nat) (ps : List FFV), k ≤ l.length ∧ ps.length ≤ k ∧ InR (· = .slice a l.length c) wr (w.heap.size + 1) l k ∧ Blk wr w.heap.size 32 #[.int .i64 0, .int .i64 0] ∧ FieldsV wr w.heap.size vo ps ∧ Grew w wr ∧ RowKit.Hid (fieldsAt l 0 = joinF (ps.map (·.1)) (fieldsAt l k))) (fun _ wr => l.length - offOf wr (w.heap.size + 1))
  case atStart => exact ⟨0, [], Nat.zero_le _, Nat.zero_le _, k1, k0, FieldsV.nil _ _, GW.out, Lib.hid joinF_nil.symm⟩
  case round =>
    obtain ⟨k, ps, hk, hps, hI, hF, hV, hG, hJ⟩ := hrel
    obtain ⟨vv, hpb, hbs, -, e9⟩ := id hI
    subst e9
    obtain ⟨q0, q1, -, -⟩ := cells_of hpb
    have HOF := Lib.hid (offOf_in hI)
    by_cases hlt : k < l.length
    · go_wp2_with fail
      refine (rone_any l _ k hlen _ hI).mono ?_
      obtain ⟨X, hX⟩ : ∃ X, X = oneR l k := ⟨_, rfl⟩
      rw [← hX]
      rintro e w3 ⟨pv, rfl, hpo, hI3, hF3⟩
      have hp1 := PayV.of_own hpo
      obtain ⟨a1, n1, c1, rfl, hn1⟩ := hp1.shape
      have g3 : Grew w w3 := hF3.grew hG (fun i e => by omega)
      have hV3 := hV.tch (Tch.of_fr (n := w.heap.size) hF3 hpb rfl (by omega)) (by decide) (by decide)
      have hF4 := hF.fr hF3 (by omega)
      have hwz := hG.size
      have g4 : Grew w3 ((w3.alloc (.cells #[.int .i64 X.1.1, .int .u8 (X.1.2.1 : Nat), .int .u64 (X.1.2.2.1 : Nat), .slice a1 n1 c1, .int .i64 X.1.2.2.2.2] 101)).alloc (.cells #[.int .i64 (X.2.1 : Nat), .int .i64 (X.2.2.1 : Nat)] 32)) := ((Below.refl _ _).alloc (Nat.le_refl _) _).alloc (by simp) _
      have hz3 := hF3.size
      have HX := Lib.hid hX
      have HI3 := Lib.hid hI3
      have HK := Lib.hid hk
      clear hX hI hbs hpb q0 q1 hV hI3 hpo hF
      by_cases he : X.2.1 ≠ 0
      · have hne : ((X.2.1 : Int) != 0) = true := by simp; omega
        have hJ2 := hJ.out
        rw [joinF_bad _ hlt (by rw [← HX.out]; exact he), ← HX.out] at hJ2
        obtain ⟨u0, u1, u2, u3⟩ := cells_of (hF4.grew g4)
        have HJ2 := Lib.hid hJ2
        clear hJ hJ2 he
        go_wp2_with fail
        go_region
        all_goals
          go_wp2
          have r1 := (((hF4.grew g4).set 0 (.int .i64 (X.2.1 : Nat))).set 1 (.int .i64 (X.2.2.1 : Nat))).drew
          refine bodyPost_ret (results_tc rfl _ _ ⟨w.heap.size, 0, none⟩ _ _ rfl rfl (loadVar_fault _ _ _ rfl r1)) rfl ?_
          rw [show fieldsR l = fieldsAt l 0 from rfl, HJ2.out]
          exact ⟨_, rfl, FlO.nil _ _, Below.trans (grew_set (grew_set (g3.trans g4) (Nat.le_refl _) _) (Nat.le_refl _) _) ((Drew.grew ⟨1, rfl⟩ : Grew _ _).mono (by simp; omega))⟩
      · have he0 : X.2.1 = 0 := by omega
        have ho := oneR_ok l k HK.out (by rw [← HX.out]; exact he0)
        rw [← HX.out] at ho
        obtain ⟨-, -, ho3, ho4, -⟩ := ho
        have hJ2 := hJ.out
        rw [joinF_step _ hlt (by rw [← HX.out]; exact he0), ← HX.out] at hJ2
        have HJ2 := Lib.hid hJ2
        obtain ⟨a9, c9, e9, -⟩ := (Sl.of_own hV3.1).open
        subst e9
        obtain ⟨u0, u1, u2, u3⟩ := cells_of (hF4.grew g4)
        have hsl : Sl (((w3.alloc (.cells #[.int .i64 X.1.1, .int .u8 (X.1.2.1 : Nat), .int .u64 (X.1.2.2.1 : Nat), .slice a1 n1 c1, .int .i64 X.1.2.2.2.2] 101)).alloc (.cells #[.int .i64 (X.2.1 : Nat), .int .i64 (X.2.2.1 : Nat)] 32)).alloc (.cells #[.int .i64 X.1.1, .int .u8 (X.1.2.1 : Nat), .int .u64 (X.1.2.2.1 : Nat), .slice a1 n1 c1, .int .i64 X.1.2.2.2.2] 101)) (.slice (some ⟨w3.heap.size + 1 + 1, 0, none⟩) 1 1) 1 5 (ffv (X.1, .slice a1 n1 c1)) := by
          have h := Sl.lit ((w3.alloc (.cells #[.int .i64 X.1.1, .int .u8 (X.1.2.1 : Nat), .int .u64 (X.1.2.2.1 : Nat), .slice a1 n1 c1, .int .i64 X.1.2.2.2.2] 101)).alloc (.cells #[.int .i64 (X.2.1 : Nat), .int .i64 (X.2.2.1 : Nat)] 32)) 101 (0, 0) #[.int .i64 X.1.1, .int .u8 (X.1.2.1 : Nat), .int .u64 (X.1.2.2.1 : Nat), .slice a1 n1 c1, .int .i64 X.1.2.2.2.2] 1 5 rfl (by unfold maxLen; omega)
          simp only [World.size_alloc] at h
          exact h
        have g5 := g4.trans (grew_alloc _ (.cells #[.int .i64 X.1.1, .int .u8 (X.1.2.1 : Nat), .int .u64 (X.1.2.2.1 : Nat), .slice a1 n1 c1, .int .i64 X.1.2.2.2.2] 101))
        have HSL := Lib.hid hsl
        have HO := Lib.hid (hV3.grew g5)
        have HP := Lib.hid ((hp1.grew g5).mono (base' := w.heap.size) (by omega))
        have HF5 := Lib.hid (hF4.grew g5)
        have HI5 := Lib.hid (HI3.out.grew g5)
        have G5 := Lib.hid (g3.trans g5)
        have hne : ((X.2.1 : Int) != 0) = false := by simp; omega
        clear hJ hJ2 he hsl hV3 hp1 hF4 g4 g5 he0
        go_wp2_with (at_builtin; refine wpList_pushFl rfl _ _ rfl w.heap.size _ ps rfl HO.out _ rfl (X.1, .slice a1 n1 c1) HSL.out HP.out (by omega) G5.out.size ?_; intro v' w2 hown2 hB2 hgb)
        have hG9 : Grew w w2 := Below.trans G5.out hB2
        obtain ⟨v9, hb9, -, -, e9⟩ := HI5.out
        rw [e9] at hb9
        have hI9 : InR (· = .slice a l.length c) w2 (w.heap.size + 1) l X.2.2.2 := ⟨_, hb9.kept hgb (blk_ne_row hb9 HO.out.1 (by decide)), HB.out.grew hG9, ho4, rfl⟩
        have hF9 := HF5.out.kept hgb (blk_ne_row HF5.out HO.out.1 (by decide))
        refine ⟨⟨X.2.2.2, ps ++ [(X.1, .slice a1 n1 c1)], ho4, by simp; omega, hI9, hF9, hown2, hG9, Lib.hid (by rw [List.map_append]; exact HJ2.out)⟩, ?_⟩
        rw [offOf_in hI9, HOF.out]; omega
    · obtain rfl : k = l.length := by omega
      have hJ2 := hJ.out
      rw [joinF_end _ (Nat.le_refl _), show fieldsAt l 0 = fieldsR l from rfl] at hJ2
      have HJ2 := Lib.hid hJ2
      obtain ⟨a9, n9, c9, rfl, hn9⟩ : ∃ a n c, u5 = .slice a n c ∧ True := by obtain ⟨a, c, e, _⟩ := (Sl.of_own hV.1).open; exact ⟨a, _, c, e, trivial⟩
      obtain ⟨u0, u1, u2, u3⟩ := cells_of hF
      clear hJ hJ2
      go_wp2
      have r1 := (hF.set 0 (.int .i64 0)).set 1 (.int .i64 0)
      have hV9 := (hV.set hF (by decide) (by decide) 0 (.int .i64 0)).set (hF.set 0 (.int .i64 0)) (by decide) (by decide) 1 (.int .i64 0)
      refine bodyPost_ret (results_tc rfl _ _ ⟨w.heap.size, 0, none⟩ _ _ rfl rfl (loadVar_fault _ _ _ rfl r1)) rfl ?_
      rw [HJ2.out]
      exact ⟨_, rfl, ⟨ps, rfl, hV9⟩, grew_set (grew_set hG (Nat.le_refl _) _) (Nat.le_refl _) _⟩
end Go.Proofs.YtbjoohafgkodcaaGreat
