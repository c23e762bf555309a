/- Package stream: Do: contract. rescriptref16.Rest, One: contracts. -/
import Derived.Test.YtgdkgmpgkocnlaaStP
namespace Go.Proofs.Ytgdkgmpgkocnlaa
open Go Go.RowKit Go.Shelf

theorem own_first {w : World} {base : Nat} {a : Option Addr} {c : Nat} {l : List UInt8} (h : OwnB w base (.slice a l.length c) l) (m : Nat) (hm : m ≤ l.length) : OwnB w base (.slice a m c) (l.take m) := by
  have hll : (l.take m).length = m := by rw [List.length_take]; omega
  rw [OwnB, hll]
  refine ⟨by rw [bv_length, hll, Nat.mul_one], ?_⟩
  rcases h.2 with ⟨e, e2⟩ | ⟨g, cap, cur, e, hb, hg, hn, hc, hs, ht⟩
  · simp only [Value.slice.injEq] at e
    obtain ⟨rfl, -, rfl⟩ := e
    obtain rfl : m = 0 := by omega
    exact .inl ⟨rfl, rfl⟩
  · simp only [Value.slice.injEq] at e
    obtain ⟨rfl, -, rfl⟩ := e
    refine .inr ⟨g, c, cur, rfl, hb, hg, by omega, hc, hs, ?_⟩
    have : cur.toList.take m = (cur.toList.take l.length).take m := by rw [List.take_take, Nat.min_eq_left hm]
    rw [Nat.mul_one] at ht ⊢
    rw [this, ht]; simp [bv]
/-- edits that are read, as they lie -/
def EdR (W : World) (v : Value) (A : List EA) : Prop := Sl W v A.length 5 (A.flatMap edv) ∧ ∀ x ∈ A, Bs W x.2 x.1.bytes ∧ x.1.ok
theorem EdR.grew {W W' : World} {v : Value} {A : List EA} (h : EdR W v A) (g : Grew W W') : EdR W' v A := ⟨h.1.grew g, fun x hx => ⟨(h.2 x hx).1.grew g, (h.2 x hx).2⟩⟩
theorem EdR.open {W : World} {v : Value} {A : List EA} (h : EdR W v A) : ∃ a n c, v = .slice a n c ∧ n = A.length ∧ n ≤ c ∧ c ≤ 9223372036854775807 := by
  obtain ⟨a, c, e, h1, h2, -, -⟩ := h.1.open
  unfold maxLen at h2
  exact ⟨a, _, c, e, rfl, h1, by omega⟩
theorem EdR.cells {W : World} {a : Option Addr} {n c : Nat} {A : List EA} (h : EdR W (.slice a n c) A) : 0 < A.length → ∃ b off, a = some ⟨b, off, none⟩ ∧ ∀ j (hj : j < A.length), W.cell? ⟨b, off + j * 5, none⟩ = some (.int .i64 A[j].1.kind) ∧ W.cell? ⟨b, off + j * 5 + 1, none⟩ = some (.int .i64 A[j].1.at') ∧
    W.cell? ⟨b, off + j * 5 + 2, none⟩ = some (.int .i64 A[j].1.n) ∧ W.cell? ⟨b, off + j * 5 + 3, none⟩ = some (.int .i64 A[j].1.to) ∧ W.cell? ⟨b, off + j * 5 + 4, none⟩ = some A[j].2 ∧ Bs W A[j].2 A[j].1.bytes ∧ A[j].1.ok := by
  intro hl
  obtain ⟨a', c', e, _, _, _, h4⟩ := h.1.open
  cases e
  obtain ⟨b, o, rfl, hc⟩ := h4 (by omega)
  refine ⟨b, o, rfl, fun j hj => ?_⟩
  have g := fun i hi => flat_at (f := edv) (k := 5) (fun _ => rfl) A j hj i hi
  have g0 := hc (j * 5) _ (g 0 (by omega))
  have g1 := hc (j * 5 + 1) _ (g 1 (by omega))
  have g2 := hc (j * 5 + 2) _ (g 2 (by omega))
  have g3 := hc (j * 5 + 3) _ (g 3 (by omega))
  have g4 := hc (j * 5 + 4) _ (g 4 (by omega))
  simp only [← Nat.add_assoc] at g0 g1 g2 g3 g4
  exact ⟨g0, g1, g2, g3, g4, h.2 _ (List.getElem_mem hj)⟩
set_option maxRecDepth 100000 in
set_option maxHeartbeats 4000000 in
theorem sdo_any (A : List EA) (b : List UInt8) (vb v : Value) (w : World) (hb : Bs w vb b) (h : EdR w v A) (hlen : b.length ≤ 1048576) :
    Calls Try.prog 8 #[vb, v] w fun e w' => ∃ v', e = .returned v' ∧ OwnB w' w.heap.size v' (doM b (A.map (·.1))) ∧ Grew w w' := by
  obtain ⟨a, n, c, rfl, hn, h1, h2⟩ := h.open
  subst hn
  have HA := Lib.hid h
  have HB := Lib.hid hb
  have hln : A.length ≤ 9223372036854775807 := by omega
  clear h hb
  go_enter Try.func8, Try.ntmps8
  go_wp2_with fail
  refine (sclone_any b _ w HB.out (by omega)).mono ?_
  rintro e w1 ⟨v1, rfl, o1, g1⟩
  have O1 := Lib.hid o1
  clear o1
  go_wp2_with fail
  go_loopw [5, 12] (fun vo i wr => ∃ k : Nat, k ≤ A.length ∧ i = .int .i64 k ∧ OwnB wr w.heap.size vo (doM b ((A.map (·.1)).take k)) ∧ Grew w wr) (fun _ i _ => A.length - (intOf i).toNat)
  case atStart => exact ⟨0, Nat.zero_le _, rfl, O1.out, g1⟩
  case round =>
    obtain ⟨k, hk, rfl, hown, hG⟩ := hrel
    by_cases hlt : k < A.length
    · obtain ⟨b1, o1, rfl, hcl⟩ := (HA.out.grew hG).cells (by omega)
      obtain ⟨x0, x1, x2, x3, x4, x5, x6⟩ := hcl k hlt
      have hlk : k < (A.map (·.1)).length := by rw [List.length_map]; exact hlt
      have hs : (A.map (·.1)).take (k + 1) = (A.map (·.1)).take k ++ [A[k].1] := by rw [List.take_succ_eq_append_getElem hlk]; simp
      have hdl := doM_len b ((A.map (·.1)).take k) hlen
      obtain ⟨D, hD⟩ : ∃ D, D = doM b ((A.map (·.1)).take k) := ⟨_, rfl⟩
      have hs2 : doM b ((A.map (·.1)).take (k + 1)) = (oneM D A[k].1).take 1048576 := by rw [hs, doM_snoc, hD]
      rw [← hD] at hown hdl
      generalize A[k].1 = e at x0 x1 x2 x3 x5 x6 hs2
      generalize A[k].2 = ve at x4 x5
      obtain ⟨ua, uc, rfl⟩ := bs_len x5
      obtain ⟨oa, oc, rfl⟩ := bs_len (Sl.of_own hown)
      have K := Lib.hid (fun W (g : Grew wr W) => sone_any w.heap.size D e _ _ W (own_grew hown g) (x5.grew g) x6 hdl (by have := hG.size; have := g.size; omega))
      have HS := Lib.hid hs2
      have hol := oneM_len D e
      obtain ⟨R, hR⟩ : ∃ R, R = oneM D e := ⟨_, rfl⟩
      rw [← hR] at K HS hol
      have hq0 : (min (R.length : Int) 1048576).toNat = min R.length 1048576 := by omega
      have hq1 : (0 : Int) ≤ min (R.length : Int) 1048576 := by omega
      simp only [edA] at K
      clear hs hs2 hcl hown hR hlk x5 x6 hD
      have z0 : (0 : Int) ≤ (k : Int) := by omega
      have z1 : (k : Int) < (A.length : Int) := by omega
      go_wp2_with fail
      refine (K.out _ (grew_alloc _ _)).mono ?_
      rintro y w2 ⟨v2, rfl, o2, g2⟩
      obtain ⟨va, vc, e2, hc1, hc2⟩ : ∃ a c, v2 = .slice a R.length c ∧ R.length ≤ c ∧ c ≤ 9223372036854775807 := by
        obtain ⟨a, c, e, q1, q2, _⟩ := (Sl.of_own o2).open
        unfold maxLen at q2
        exact ⟨a, c, e, q1, by omega⟩
      subst e2
      have hq2 : min (R.length : Int) 1048576 ≤ (vc : Int) := by omega
      have o3 := own_first o2 (min R.length 1048576) (by omega)
      rw [show R.take (min R.length 1048576) = R.take 1048576 by rw [List.take_eq_take_iff]; omega, ← HS.out] at o3
      have O3 := Lib.hid o3
      clear o2 o3
      go_wp2
      go_roundw
      case rel => exact ⟨k + 1, by omega, by go_num, O3.out, (hG.trans (grew_alloc _ _)).trans g2⟩
      case measure => simp [intOf]; omega
    · obtain rfl : k = A.length := by omega
      rw [List.take_of_length_le (by simp)] at hown
      go_wp2
      go_ret
      exact ⟨_, rfl, hown, hG⟩
end Go.Proofs.Ytgdkgmpgkocnlaa
