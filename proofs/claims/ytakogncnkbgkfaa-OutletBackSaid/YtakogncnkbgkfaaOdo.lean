/- rescriptref05, and what is written of an ask (rescriptlaw05): contracts. -/
import Derived.Test.YtakogncnkbgkfaaOal
namespace Go.Proofs.Ytakogncnkbgkfaa
open Go Go.RowKit Go.Shelf
attribute [local go_sem] Oper.semAt_some

theorem rnew_any (most : Int) (w : World) : Calls Try.prog 11 #[.int .i64 most] w fun e w' => e = .returned (.pointer (some ⟨w.heap.size, 0, none⟩)) ∧ OutR w.heap.size (· = w.heap.size) w' w.heap.size [] (clampM most) ∧ Grew w w' := by
  by_cases h1 : most < 0
  · have e : clampM most = 0 := by unfold clampM; rw [if_pos h1]
    rw [e]
    clear e
    go_enter Try.func11, Try.ntmps11
    go_wp2
    go_ret
    exact ⟨rfl, ⟨_, Blk.new _ _ _, ownB_nil _ _, by simp, by omega, Nat.le_refl _, fun k => by simp [Value.ownBlock]⟩, grew_alloc _ _⟩
  obtain ⟨m, rfl⟩ := Int.eq_ofNat_of_zero_le (by omega : 0 ≤ most)
  have hd : decide ((m : Int) < 0) = false := by simp
  by_cases h2 : 16777216 < m
  · have e : clampM m = 16777216 := by unfold clampM; rw [if_neg (by omega), if_pos (by omega)]
    rw [e]
    clear e h1
    go_enter Try.func11, Try.ntmps11
    go_wp2
    go_ret
    exact ⟨rfl, ⟨_, Blk.new _ _ _, ownB_nil _ _, by simp, by omega, Nat.le_refl _, fun k => by simp [Value.ownBlock]⟩, grew_alloc _ _⟩
  · have e : clampM m = m := by unfold clampM; rw [if_neg (by omega), if_neg (by omega)]; simp
    have hle : m ≤ 16777216 := by omega
    rw [e]
    clear e h1 h2
    go_enter Try.func11, Try.ntmps11
    go_wp2
    go_ret
    exact ⟨rfl, ⟨_, Blk.new _ _ _, ownB_nil _ _, by simp, hle, Nat.le_refl _, fun k => by simp [Value.ownBlock]⟩, grew_alloc _ _⟩

set_option maxHeartbeats 1000000 in
theorem rput5_any (base : Nat) (F : Nat → Prop) (b l : List UInt8) (p m : Nat) (x : Value) (w : World) (h : OutR base F w p b m) (hx : Bs w x l) (hl : l.length ≤ 100000000) :
    Calls Try.prog 13 #[.pointer (some ⟨p, 0, none⟩), x] w fun e w' => e = .returned (.int .i64 (putR b l m).2) ∧ OutP 41 base F p (putR b l m).1 m w w' := by
  obtain ⟨v, h1, h2, h3, h4, h5, h6⟩ := id h
  have s2 := Sl.of_own h2
  obtain ⟨a, c, rfl⟩ := bs_len s2
  obtain ⟨ax, cx, rfl⟩ := bs_len hx
  obtain ⟨c0, c1, -, -⟩ := cells_of' h1
  by_cases hfit : m < b.length + l.length
  · have hfit' : (m : Int) < (b.length : Int) + (l.length : Int) := by omega
    unfold putR
    rw [if_pos hfit]
    clear h1 h2 h6 hfit
    go_enter Try.func13, Try.ntmps13
    go_wp2
    go_quiet (fail)
    go_wp2
    go_ret
    exact ⟨rfl, OutP.mk_grew h (Drew.grew ⟨_, rfl⟩)⟩
  · have hfit' : (b.length : Int) + (l.length : Int) ≤ (m : Int) := by omega
    have hd : decide ((m : Int) < (b.length : Int) + (l.length : Int)) = false := by simp; omega
    have hle : b.length + l.length ≤ m := by omega
    unfold putR
    rw [if_neg hfit]
    have H6 := Lib.hid h6
    clear hfit h6
    go_enter Try.func13, Try.ntmps13
    go_wp2
    go_quiet (fail)
    clear c0 c1
    have hb1 := h1.drewN nq
    obtain ⟨c0, c1, -, -⟩ := cells_of' hb1
    go_wp2_with fail
    refine (join_any b l _ _ _ (s2.drew nq) (hx.drew nq) (by omega)).mono ?_
    rintro e1 w1 ⟨v1, rfl, o1, g1⟩
    obtain ⟨a1, c1', hv1⟩ := bs_len (Sl.of_own o1)
    rw [List.length_append] at hv1
    subst hv1
    have hb2 := hb1.grew g1
    obtain ⟨q0, q1, f0, f1⟩ := cells_of' hb2
    go_wp2
    go_ret
    have hge : ∀ g, (Value.slice a1 (b.length + l.length) c1').ownBlock = some g → w.heap.size ≤ g := fun g hg => by have := (own_lt o1 g hg).1; simpa using this
    have hne2 : (Value.slice a1 (b.length + l.length) c1').ownBlock ≠ some p := fun e' => by have := hge p e'; have := h1.lt; omega
    refine ⟨rfl, fun k => k = p ∨ (Value.slice a1 (b.length + l.length) c1').ownBlock = some k, ⟨_, hb2.set 0 _, own_set (own_mono o1 (by simp; have := h1.lt; omega)) _ _ hne2, by rw [List.length_append]; omega, h4, h5, fun k => Iff.rfl⟩,
      (Fr.of_grew (Grew.trans (Drew.grew ⟨nq, rfl⟩) g1)).set p 0 _ (fun _ => (H6.out p).2 (.inl rfl)), ?_⟩
    rintro k (rfl | hk)
    · exact .inl ((H6.out k).2 (.inl rfl))
    · exact .inr (hge k hk)

theorem rbytes5_any (l : List UInt8) (x : Value) (w : World) (hx : Bs w x l) (hl : l.length ≤ 100000000) : Calls Try.prog 41 #[x] w fun e w' => ∃ v, e = .returned v ∧ OwnB w' w.heap.size v (vput l.length ++ l) ∧ Grew w w' := by
  obtain ⟨a, c, rfl⟩ := bs_len hx
  have h10 := vput_len10 l.length (by omega)
  have H10 := Lib.hid h10
  clear h10
  go_enter Try.func41, Try.ntmps41
  go_wp2_with fail
  refine (rput_any l.length (by omega) _).mono ?_
  rintro e1 w1 ⟨v1, rfl, o1, g1⟩
  have s1 := Sl.of_own o1
  obtain ⟨a1, c1, rfl⟩ := bs_len s1
  go_wp2_with fail
  refine (join_any (vput l.length) l _ _ _ s1 (hx.grew g1) (by have := H10.out; omega)).mono ?_
  rintro e2 w2 ⟨v2, rfl, o2, g2⟩
  go_wp2
  go_ret
  exact ⟨_, rfl, own_mono o2 g1.size, Grew.trans g1 g2⟩

/-! ## asks -/
structure Ask5 where
  kind : Nat
  n : Nat
  num : Int
  wire : Nat
  v : Value
  B : List UInt8
def ask5V (a : Ask5) : List Value := [.int .u8 a.kind, .int .u64 a.n, .int .i64 a.num, .int .u8 a.wire, a.v]
structure Ask5.ok (w : World) (a : Ask5) : Prop where
  kind : a.kind < 256
  n : a.n < 18446744073709551616
  num1 : -9223372036854775808 ≤ a.num
  num2 : a.num ≤ 9223372036854775807
  wire : a.wire < 256
  bs : Bs w a.v a.B
/-- the bytes of an ask, or why there are none -/
def askW (a : Ask5) : List UInt8 × Nat :=
  if a.kind = 0 then (vput a.n, 0) else if a.kind = 1 then (vput (tmake a.num a.wire).1, (tmake a.num a.wire).2) else if a.kind = 2 then (fixB 4 (a.n % 4294967296), 0)
  else if a.kind = 3 then (fixB 8 a.n, 0) else if a.kind = 4 then (vput a.B.length ++ a.B, 0) else (a.B, 0)
/-- what an ask does to what was written -/
def askD (a : Ask5) (m : Nat) : Wr := fun b => if (askW a).2 ≠ 0 then (b, (askW a).2) else putR b (askW a).1 m
end Go.Proofs.Ytakogncnkbgkfaa
