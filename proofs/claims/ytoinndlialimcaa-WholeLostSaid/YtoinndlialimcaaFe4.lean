/- Package feeder: Feed, End. -/
import Derived.Test.YtoinndlialimcaaFe3
namespace Go.Proofs.Ytoinndlialimcaa
open Go Go.RowKit Go.Shelf

theorem FoundsV.fr2 {S : Nat → Prop} {W W' : World} {base : Nat} {v : Value} {ps : List FV} (h : FoundsV W base v ps) (hf : Fr S W W') (hs : ∀ k, S k → k < base) : FoundsV W' base v ps :=
  ⟨own_fr h.1 hf (fun g hg hS => by have := (own_lt h.1 g hg).1; have := hs g hS; omega), fun p hp => (h.2 p hp).fr hf (fun g hg hS => by have := ((h.2 p hp).2 g hg).1; have := hs g hS; omega)⟩
theorem FOs.fr2 {S : Nat → Prop} {W W' : World} {base : Nat} {v : Value} {fs : List Fnd} (h : FOs W base v fs) (hf : Fr S W W') (hs : ∀ k, S k → k < base) : FOs W' base v fs := by
  obtain ⟨ps, e, h⟩ := h; exact ⟨ps, e, h.fr2 hf hs⟩
/-- frames at places further on -/
def shF (n : Nat) (fs : List Fnd) : List Fnd := fs.map fun x => (x.1 + n, x.2)
theorem shF_map (n : Nat) (ps : List FV) : (ps.map (shV n)).map (·.1) = shF n (ps.map (·.1)) := by simp [shF, shV]
theorem FOs.nil (W : World) (base : Nat) : FOs W base (.slice none 0 0) [] := ⟨[], rfl, FoundsV.nil _ _⟩
/-- what a call on a feeder leaves, and tells: its frames lie in rows above all that is the feeder's own -/
def FdQ (t : TypeId) (base : Nat) (F : Nat → Prop) (p : Nat) (K : List UInt8) (n : Nat) (over : Bool) (v : Value) (fs : List Fnd) (w w' : World) : Prop :=
  ∃ (F' : Nat → Prop) (b : Nat), FdS t base F' w' p K n over ∧ Fr F w w' ∧ (∀ k, F' k → F k ∨ w.heap.size ≤ k) ∧ w.heap.size ≤ b ∧ FOs w' b v fs ∧ ∀ k, F' k → k < b
theorem FdQ.p {t : TypeId} {base : Nat} {F : Nat → Prop} {p : Nat} {K : List UInt8} {n : Nat} {over : Bool} {v : Value} {fs : List Fnd} {w w' : World} (h : FdQ t base F p K n over v fs w w') : FdP t base F p K n over w w' := by
  obtain ⟨F', b, h1, h2, h3, _⟩ := h; exact ⟨F', h1, h2, h3⟩
theorem FdQ.fos {t : TypeId} {base : Nat} {F : Nat → Prop} {p : Nat} {K : List UInt8} {n : Nat} {over : Bool} {v : Value} {fs : List Fnd} {w w' : World} (h : FdQ t base F p K n over v fs w w') : FOs w' w.heap.size v fs := by
  obtain ⟨F', b, _, _, _, h4, h5, _⟩ := h; exact h5.mono h4
theorem FdQ.same {t : TypeId} {base : Nat} {F : Nat → Prop} {p : Nat} {K : List UInt8} {n : Nat} {over : Bool} {w : World} (h : FdS t base F w p K n over) : FdQ t base F p K n over (.slice none 0 0) [] w w :=
  ⟨F, w.heap.size, h, Fr.refl _ _, fun _ h => .inl h, Nat.le_refl _, FOs.nil _ _, fun k hk => (h.own k hk).2⟩
/-- what a piece more tells, and leaves -/
def fdOut (K m : List UInt8) (n : Nat) (over : Bool) : List Fnd := if over then [] else shF n (walkL false (K ++ m) 0).1
def fdK (K m : List UInt8) (over : Bool) : List UInt8 := if over then K else (K ++ m).drop (walkL false (K ++ m) 0).2.2
def fdN (K m : List UInt8) (n : Nat) (over : Bool) : Nat := if over then n else n + (walkL false (K ++ m) 0).2.2

set_option maxRecDepth 100000 in
set_option maxHeartbeats 2000000 in
theorem ffeed_any (base : Nat) (F : Nat → Prop) (p : Nat) (K m : List UInt8) (n : Nat) (over : Bool) (x : Value) (w : World) (h : FdS 80 base F w p K n over) (hx : Bs w x m) (hn : n ≤ 100000000) (hl : K.length + m.length ≤ 100000000) :
    Calls Try.prog 35 #[.pointer (some ⟨p, 0, none⟩), x] w fun e w' => ∃ v, e = .returned v ∧ FdQ 80 base F p (fdK K m over) (fdN K m n over) over v (fdOut K m n over) w w' := by
  obtain ⟨ax, nx, cx, rfl, -⟩ := bs_shape hx
  have HS := Lib.hid (fshut_any base F p K n over w h)
  cases over with
  | true =>
    have H := Lib.hid h
    clear h hx
    go_enter Try.func35, Try.ntmps35
    go_wp2_with fail
    refine HS.out.mono ?_
    rintro e w1 ⟨rfl, rfl⟩
    go_wp2
    go_ret
    exact ⟨_, rfl, FdQ.same H.out⟩
  | false =>
    have HA := Lib.hid (fadd_any base F p K m n false (.slice ax nx cx) w h hx (by omega))
    have H := Lib.hid h
    have hL : (K ++ m).length = K.length + m.length := List.length_append
    have hlen : (K ++ m).length ≤ 100000000 := by omega
    simp only [fdOut, fdK, fdN, Bool.false_eq_true, if_false]
    obtain ⟨L, hLL⟩ : ∃ L, L = K ++ m := ⟨_, rfl⟩
    rw [← hLL] at HA hlen ⊢
    have hw1 := walk_at false L 0
    have hw2 := (walk_from false L 0).2.1
    obtain ⟨R, hR⟩ : ∃ R, R = walkL false L 0 := ⟨_, rfl⟩
    have hall := all_any L
    rw [← hR] at hall hw1 hw2 ⊢
    have HALL := Lib.hid hall
    have HW1 := Lib.hid hw1
    clear hR hLL hL hall hw1 h hx
    go_enter Try.func35, Try.ntmps35
    go_wp2_with fail
    refine HS.out.mono ?_
    rintro e w1 ⟨rfl, rfl⟩
    go_wp2_with fail
    refine HA.out.mono ?_
    rintro e w1 ⟨⟨u, rfl⟩, F1, d1, f1, s1⟩
    obtain ⟨kv, k1, o1, q1, q2⟩ := id d1
    obtain ⟨ka, kc, rfl, -, -⟩ := ownB_shape o1
    obtain ⟨x0, -, -, -, -, -⟩ := cells3 k1
    have D1 := Lib.hid d1
    have F1f := Lib.hid f1
    have S1 := Lib.hid s1
    have O1 := Lib.hid o1
    clear d1 k1 o1 f1 s1 q2
    go_wp2_with fail
    refine (HALL.out _ _ (Sl.of_own O1.out) (by omega)).mono ?_
    rintro e w2 ⟨v2, rfl, ⟨ps, hps, r2⟩, g2⟩
    obtain ⟨a2, c2, e2⟩ : ∃ a c, v2 = .slice a ps.length c := by obtain ⟨a, c, e, _⟩ := (Sl.of_own r2.1).open; exact ⟨a, c, e⟩
    subst e2
    have D2 := Lib.hid (D1.out.grew g2)
    have R2 := Lib.hid r2
    have HPS := Lib.hid hps
    have hple : ∀ q ∈ ps, q.1.1 ≤ 1000000000 := by
      intro q hq
      have hm : q.1 ∈ R.1 := by rw [← hps]; exact List.mem_map.2 ⟨q, hq, rfl⟩
      have := (HW1.out.1 q.1 hm).2.1
      unfold fend at this; omega
    have KM := Lib.hid (fmoved_any base w1.heap.size F1 p L n false ps _ w2 D2.out r2 (by omega) hple)
    clear x0 r2 hps hple
    go_wp2_with fail
    refine KM.out.mono ?_
    rintro e w3 ⟨rfl, r3, f3⟩
    have hF1 : ∀ k, F1 k → k < w1.heap.size := fun k hk => (D1.out.own k hk).2
    have hrow : ∀ i, (Value.slice a2 ps.length c2).ownBlock = some i → w1.heap.size ≤ i := fun i hi => (own_lt R2.out.1 i hi).1
    have D3 := D2.out.fr f3 (fun k hk hi => by have := hF1 k hk; have := hrow k hi; omega)
    have KD := Lib.hid (fdrop_any base F1 p L n false R.2.2 (by omega) (by omega) (by omega) w3 D3)
    have R3 := Lib.hid r3
    have F3 := Lib.hid f3
    have HF1 := Lib.hid hF1
    have HROW := Lib.hid hrow
    clear r3 f3 hF1 hrow D3
    go_wp2_with fail
    refine KD.out.mono ?_
    rintro e w4 ⟨⟨u4, rfl⟩, d4, f4⟩
    have HD4 := Lib.hid d4
    have HF4 := Lib.hid f4
    clear d4 f4
    go_wp2
    go_ret
    have hsz1 : w.heap.size ≤ w1.heap.size := F1f.out.size
    have hsz2 : w1.heap.size ≤ w2.heap.size := g2.size
    have hsz3 : w2.heap.size ≤ w3.heap.size := F3.out.size
    refine ⟨_, rfl, F1, w1.heap.size, HD4.out, ?_, S1.out, hsz1, ⟨ps.map (shV n), by rw [shF_map, HPS.out], R3.out.fr2 HF4.out HF1.out⟩, HF1.out⟩
    have t1 : Fr F w w2 := F1f.out.trans (Fr.of_grew g2)
    have t2 : Fr F w w3 := t1.trans' F3.out (fun i hi hr => by have := HROW.out i hr; omega)
    exact t2.trans' HF4.out (fun i hi hr => by rcases S1.out i hr with h | h; exact h; omega)
theorem ffeed_nil (x : Value) (w : World) : Calls Try.prog 35 #[.pointer none, x] w fun e w' => e = .returned (.slice none 0 0) ∧ w = w' := by
  go_enter Try.func35, Try.ntmps35
  go_wp2_with fail
  refine (fshut_nil _).mono ?_
  rintro e w1 ⟨rfl, rfl⟩
  go_wp2
  go_ret
  exact ⟨rfl, rfl⟩
/-- what the end tells -/
def fdEnd (K : List UInt8) (n : Nat) (over : Bool) : List Fnd := if over then [] else shF n (walkL true K 0).1
end Go.Proofs.Ytoinndlialimcaa
