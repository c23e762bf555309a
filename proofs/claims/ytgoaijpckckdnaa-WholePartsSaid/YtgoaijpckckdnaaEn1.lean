/- encode.put: contract. -/
import Derived.Test.YtgoaijpckckdnaaSkV
namespace Go.Proofs.Ytgoaijpckckdnaa
open Go Go.RowKit Go.Shelf
attribute [local go_sem] Oper.semAt_some

theorem putF_bad {x : Fld} (h : (putF x).2 ≠ 0) : (putF x).1 = [] := by
  unfold putF at h ⊢
  by_cases h1 : (tmake (fNum x) (fWire x)).2 ≠ 0
  · rw [if_pos h1]
  rw [if_neg h1] at h ⊢
  by_cases h2 : fWire x = 2 ∧ 8192 < (fB x).length
  · rw [if_pos h2]
  · rw [if_neg h2] at h; exact absurd rfl h
theorem putsF_one (x : Fld) : (putsF 0 [x]).1 = (putF x).1 ∧ (putsF 0 [x]).2.1 = (putF x).2 := by
  rw [putsF_cons]
  by_cases h : (putF x).2 ≠ 0
  · rw [if_pos h]; exact ⟨(putF_bad h).symm, rfl⟩
  · rw [if_neg h, if_neg (by simp [putsF])]
    exact ⟨by simp [putsF], by simp only; omega⟩
set_option maxRecDepth 100000 in
set_option maxHeartbeats 4000000 in
theorem eput_any (x : Fld) (v : Value) (w : World) (hx : x.ok) (hb : Bs w v (fB x)) (hl : (fB x).length ≤ 100000000) :
    Calls Try.prog 82 #[fldA x v] w fun e w' => ∃ v', e = .returned v' ∧ OwnB w' w.heap.size v' (putF x).1 ∧ Grew w w' := by
  obtain ⟨a, n, c, rfl, hn⟩ := bs_shape hb
  have g2 : Grew w ((w.alloc (.cells #[.int .i64 x.1, .int .u8 (x.2.1 : Nat), .int .u64 (x.2.2.1 : Nat), .slice a n c, .int .i64 x.2.2.2.2] 39)).alloc (.cells #[.int .i64 x.1, .int .u8 (x.2.1 : Nat), .int .u64 (x.2.2.1 : Nat), .slice a n c, .int .i64 x.2.2.2.2] 39)) := ((Below.refl _ _).alloc (Nat.le_refl _) _).alloc (by simp) _
  have hfl : FlR ((w.alloc (.cells #[.int .i64 x.1, .int .u8 (x.2.1 : Nat), .int .u64 (x.2.2.1 : Nat), .slice a n c, .int .i64 x.2.2.2.2] 39)).alloc (.cells #[.int .i64 x.1, .int .u8 (x.2.1 : Nat), .int .u64 (x.2.2.1 : Nat), .slice a n c, .int .i64 x.2.2.2.2] 39)) (.slice (some ⟨w.heap.size + 1, 0, none⟩) 1 1) [((x, .slice a n c) : FFV)] :=
    ⟨by
      have h := Sl.lit (w.alloc (.cells #[.int .i64 x.1, .int .u8 (x.2.1 : Nat), .int .u64 (x.2.2.1 : Nat), .slice a n c, .int .i64 x.2.2.2.2] 39)) 39 (0, 0) #[.int .i64 x.1, .int .u8 (x.2.1 : Nat), .int .u64 (x.2.2.1 : Nat), .slice a n c, .int .i64 x.2.2.2.2] 1 5 rfl (by unfold maxLen; omega)
      simp only [World.size_alloc] at h
      exact h, fun p hp => by
      obtain rfl := List.mem_singleton.1 hp
      exact hb.grew g2⟩
  have kp := skPut_any [((x, .slice a n c) : FFV)] _ _ hfl (fun p hp => by obtain rfl := List.mem_singleton.1 hp; exact ⟨hx, hl⟩) (by simp)
  simp only [List.map_cons, List.map_nil] at kp
  obtain ⟨P, hP⟩ : ∃ P, P = putsF 0 [x] := ⟨_, rfl⟩
  have hP1 : P.1 = (putF x).1 := by rw [hP]; exact (putsF_one x).1
  have hPe : P.2.1 ≠ 0 → P.1 = [] := by rw [hP]; exact putsF_err _ _
  rw [← hP] at kp
  rw [← hP1]
  have KP := Lib.hid kp
  have HPE := Lib.hid hPe
  clear kp hfl hP hP1 hPe hb
  go_enter Try.func82, Try.ntmps82
  go_wp2_with fail
  refine KP.out.mono ?_
  rintro e w1 ⟨v1, rfl, ho1, g1⟩
  obtain ⟨a1, n1, c1, rfl, hn1⟩ := bs_shape (Sl.of_own ho1)
  have g3 := grew_alloc w1 (.cells #[.int .i64 (P.2.1 : Nat), .int .i64 (P.2.2 : Nat)] 27)
  have HO := Lib.hid (own_mono (base' := w.heap.size) (own_grew ho1 g3) g2.size)
  clear ho1
  by_cases he : P.2.1 ≠ 0
  · have hne : ((P.2.1 : Int) != 0) = true := by simp; omega
    have HP0 := Lib.hid (HPE.out he)
    clear he
    go_wp2
    go_ret
    rw [HP0.out]
    exact ⟨_, rfl, ownB_nil _ _, (g2.trans g1).trans g3⟩
  · have hne : ((P.2.1 : Int) != 0) = false := by simp; omega
    clear he
    go_wp2
    go_ret
    exact ⟨_, rfl, HO.out, (g2.trans g1).trans g3⟩
end Go.Proofs.Ytgoaijpckckdnaa
