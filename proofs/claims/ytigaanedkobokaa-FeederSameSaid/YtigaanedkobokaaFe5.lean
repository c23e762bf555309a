/- rescriptref15: the document's feeder. -/
import Derived.Test.YtigaanedkobokaaFe4
namespace Go.Proofs.Ytigaanedkobokaa
open Go Go.RowKit Go.Shelf

theorem fdv_flat_len (q : List FV) : (q.flatMap fdv).length = q.length * 3 := by
  induction q with
  | nil => rfl
  | cons x q ih => rw [List.flatMap_cons, List.length_append, ih, List.length_cons]; simp [fdv]; omega
/-- v[m:] of frames that are read -/
theorem FRs.dropI {W : World} {b off : Nat} {n c : Nat} {fs : List Fnd} (h : FRs W (.slice (some ⟨b, off, none⟩) n c) fs) (m : Nat) (hm : m ≤ n) :
    FRs W (.slice (if c = m then some ⟨b, off, none⟩ else some ⟨b, off + m * 3, none⟩) (n - m) (c - m)) (fs.drop m) := by
  obtain ⟨ps, rfl, ⟨hl, a, c', e, h1, h2, h3, h4⟩, h5⟩ := h
  simp only [Value.slice.injEq] at e
  obtain ⟨rfl, rfl, rfl⟩ := e
  refine ⟨ps.drop m, by rw [List.map_drop], ?_, fun p hp => h5 p (List.mem_of_mem_drop hp)⟩
  rw [List.length_drop]
  by_cases e : c = m
  · rw [if_pos e]
    have hd : ps.drop m = [] := List.drop_eq_nil_of_le (by omega)
    rw [hd]
    refine ⟨by simp; omega, some ⟨b, off, none⟩, c - m, rfl, by omega, by omega, (fun h => by cases h), ?_⟩
    rintro ad had j u hu; cases hu
  · rw [if_neg e]
    have hdf : (ps.drop m).flatMap fdv = (ps.flatMap fdv).drop (m * 3) := by
      have e1 : ps.flatMap fdv = (ps.take m).flatMap fdv ++ (ps.drop m).flatMap fdv := by rw [← List.flatMap_append, List.take_append_drop]
      have e2 : ((ps.take m).flatMap fdv).length = m * 3 := by rw [fdv_flat_len, List.length_take, Nat.min_eq_left hm]
      rw [e1, ← e2, List.drop_left]
    refine ⟨by rw [fdv_flat_len, List.length_drop], some ⟨b, off + m * 3, none⟩, c - m, rfl, by omega, by omega, (fun h => by cases h), ?_⟩
    rintro ad had j u hu
    cases had
    rw [hdf, List.getElem?_drop] at hu
    have := h4 _ rfl _ u hu
    rw [Addr.add_lit] at this ⊢
    rwa [show off + m * 3 + j = off + (m * 3 + j) by omega]

set_option maxRecDepth 100000 in
set_option maxHeartbeats 2000000 in
theorem r15feed_any (base : Nat) (F : Nat → Prop) (p : Nat) (B m : List UInt8) (n : Nat) (over : Bool) (x : Value) (w : World) (h : FdS 59 base F w p B n over) (hx : Bs w x m) (hl : B.length + m.length ≤ 100000000) (hn : n ≤ (walkL false (B ++ m) 0).1.length) :
    Calls Try.prog 38 #[.pointer (some ⟨p, 0, none⟩), x] w fun e w' => ∃ v, e = .returned v ∧ FRs w' v (if over then [] else (walkL false (B ++ m) 0).1.drop n) ∧ FdP 59 base F p (if over then B else B ++ m) (if over then n else (walkL false (B ++ m) 0).1.length) over w w' := by
  obtain ⟨ax, nx, cx, rfl, -⟩ := bs_shape hx
  obtain ⟨kv, h1, h2, h3, h4⟩ := id h
  obtain ⟨ka, kc, rfl, -, -⟩ := ownB_shape h2
  obtain ⟨x0, x1, x2, y0, y1, y2⟩ := cells3 h1
  have hbp : base ≤ w.heap.size := by have := h1.lt; omega
  have hne : (Value.slice ka B.length kc).ownBlock ≠ some p := fun e => blk_ne_row h1 h2 (by decide) e.symm
  cases over with
  | true =>
    have H := Lib.hid h
    clear h hx h1 h2 h4 hne
    go_enter Try.func38, Try.ntmps38
    go_wp2
    go_ret
    exact ⟨_, rfl, ⟨[], rfl, Sl.nil _ 3, fun p hp => by cases hp⟩, FdP.mk_grew H.out (Below.refl _ _)⟩
  | false =>
    simp only [Bool.false_eq_true, if_false]
    have hL : (B ++ m).length = B.length + m.length := List.length_append
    have hj := join_any B m _ _ w (Sl.of_own h2) hx (by omega)
    have hlen : (B ++ m).length ≤ 100000000 := by omega
    obtain ⟨L, hLL⟩ : ∃ L, L = B ++ m := ⟨_, rfl⟩
    rw [← hLL] at hj hlen hn ⊢
    have hw := r14walk_any L false
    obtain ⟨R, hR⟩ : ∃ R, R = walkL false L 0 := ⟨_, rfl⟩
    rw [← hR] at hw hn ⊢
    have HJ := Lib.hid hj
    have HW := Lib.hid hw
    have H1 := Lib.hid h1
    have H4 := Lib.hid h4
    have HNE := Lib.hid hne
    clear hj hw hR hLL hL h hx h1 h2 h4 hne
    go_enter Try.func38, Try.ntmps38
    go_wp2_with fail
    refine HJ.out.mono ?_
    rintro e w1 ⟨v1, rfl, o1, g1⟩
    obtain ⟨a1, c1, rfl, -, -⟩ := ownB_shape o1
    obtain ⟨x0', x1', x2', y0', y1', y2'⟩ := cells3 (H1.out.grew g1)
    have hne1 : (Value.slice a1 L.length c1).ownBlock ≠ some p := fun e => by have := (own_lt o1 p e).1; have := H1.out.lt; omega
    have k1 := (H1.out.grew g1).set 0 (.slice a1 L.length c1)
    have o1' := own_set o1 ⟨p, 0, none⟩ (.slice a1 L.length c1) hne1
    have f1 : Fr F w (w1.setCell ⟨p, 0, none⟩ (.slice a1 L.length c1)) := (Fr.of_grew g1).set p 0 _ (fun _ => (H4.out p).2 (.inl rfl))
    have hz1 : (w1.setCell ⟨p, 0, none⟩ (.slice a1 L.length c1)).heap.size = w1.heap.size := by simp
    clear x0 x1 x2 y0 y1 y2
    have HK1 := Lib.hid k1
    have HO1 := Lib.hid o1'
    have HF1 := Lib.hid f1
    have HNE1 := Lib.hid hne1
    clear k1 o1' f1 o1 hne1
    go_wp2_with fail
    clear x0' x1' x2' y0' y1' y2'
    generalize w1.setCell ⟨p, 0, none⟩ (.slice a1 L.length c1) = w2 at HK1 HO1 HF1 hz1 ⊢
    refine (HW.out _ w2 (Sl.of_own HO1.out) (by omega)).mono ?_
    rintro e w3 ⟨v3, rfl, r3, g3⟩
    obtain ⟨a3, n3, c3, rfl, en3, t3, s3⟩ := r3.shape
    have K3 := HK1.out.grew g3
    obtain ⟨x0, x1, x2, y0, y1, y2⟩ := cells3 K3
    have f3 := r3.frs
    have hn3 : n ≤ n3 := by omega
    have z1 : (n : Int) ≤ (c3 : Int) := by omega
    have z2 : (n : Int) ≤ (n3 : Int) := by omega
    have EN := Lib.hid en3
    have hO3 := own_grew HO1.out g3
    have HO3 := Lib.hid hO3
    have HK3 := Lib.hid K3
    have hFin : Fr F w (w3.setCell ⟨p, 1, none⟩ (.int .i64 (n3 : Nat))) := (HF1.out.trans (Fr.of_grew g3)).set p 1 _ (fun _ => (H4.out p).2 (.inl rfl))
    have HFIN := Lib.hid hFin
    have hsz : w.heap.size ≤ w1.heap.size := g1.size
    have fin : RowKit.Hid (FdP 59 base F p L R.1.length false w (w3.setCell ⟨p, 1, none⟩ (.int .i64 (n3 : Nat)))) := by
      refine ⟨fun k => k = p ∨ (Value.slice a1 L.length c1).ownBlock = some k, ⟨_, by rw [← EN.out]; exact HK3.out.set 1 _, own_mono (own_set HO3.out _ _ HNE1.out) hbp, h3, fun k => Iff.rfl⟩, HFIN.out, ?_⟩
      rintro k (rfl | hk)
      · exact .inl ((H4.out k).2 (.inl rfl))
      · exact .inr (own_lt HO3.out k hk).1
    have hsh : (a3 = none ∧ n3 = 0 ∧ c3 = 0) ∨ ∃ g, a3 = some ⟨g, 0, none⟩ := by
      obtain ⟨ps, _, hr⟩ := r3
      rcases hr.1.2 with ⟨e, _⟩ | ⟨g, cap, cur, e, _⟩
      · simp only [Value.slice.injEq] at e; exact .inl ⟨e.1, e.2.1, e.2.2⟩
      · simp only [Value.slice.injEq] at e; exact .inr ⟨g, e.1⟩
    have hpz : p < w2.heap.size := HK1.out.lt
    have r3' := (r3.fr2 ((Fr.refl (· = p) w3).set p 1 (.int .i64 (n3 : Nat)) (fun _ => rfl)) (fun k hk => by rw [hk]; exact hpz)).frs
    have R3 := Lib.hid r3'
    clear r3 r3' K3 hFin hO3 f3 en3
    rcases hsh with ⟨rfl, rfl, rfl⟩ | ⟨g, rfl⟩
    · have hn0 : n = 0 := by omega
      have x1z : w3.cell? ⟨p, 1, none⟩ = some (.int .i64 0) := by rw [x1, hn0]; rfl
      have HN0 := Lib.hid hn0
      clear hn0 x1 z1 z2 hn3
      go_wp2
      go_ret
      have e0 : R.1 = [] := List.eq_nil_of_length_eq_zero EN.out.symm
      refine ⟨_, rfl, ?_, fin.out⟩
      rw [e0, List.drop_nil]
      exact ⟨[], rfl, Sl.nil _ 3, fun p hp => by cases hp⟩
    · have hdi := R3.out.dropI n hn3
      rw [Nat.zero_add] at hdi
      generalize hsa : (if c3 = n then some (⟨g, 0, none⟩ : Addr) else some ⟨g, n * 3, none⟩) = sa at hdi
      have HDI := Lib.hid hdi
      have HSA := Lib.hid hsa
      clear hdi
      go_wp2
      go_ret
      exact ⟨_, rfl, HDI.out, fin.out⟩
end Go.Proofs.Ytigaanedkobokaa
