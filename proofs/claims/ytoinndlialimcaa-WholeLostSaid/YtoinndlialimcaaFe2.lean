/- Package feeder: moved, drop. -/
import Derived.Test.YtoinndlialimcaaFe1
import Derived.Deep.RegionLaw
namespace Go.Proofs.Ytoinndlialimcaa
open Go Go.RowKit Go.Shelf

/-- frames at places further on -/
def shV (n : Nat) (p : FV) : FV := ((p.1.1 + n, p.1.2), p.2)
theorem mid_len {α : Type} (f : α → α) (ps : List α) (k : Nat) (hk : k ≤ ps.length) : ((ps.take k).map f ++ ps.drop k).length = ps.length := by
  rw [List.length_append, List.length_map, List.length_take, List.length_drop]; omega
theorem mid_get {α : Type} (f : α → α) (ps : List α) (k : Nat) (hk : k < ps.length) : ((ps.take k).map f ++ ps.drop k)[k]'(by rw [mid_len f ps k (by omega)]; exact hk) = ps[k] := by
  have hl : ((ps.take k).map f).length = k := by rw [List.length_map, List.length_take]; omega
  rw [List.getElem_append_right (by omega), List.getElem_drop]
  congr 1; omega
theorem mid_set {α : Type} (f : α → α) (ps : List α) (k : Nat) (hk : k < ps.length) : ((ps.take k).map f ++ ps.drop k).set k (f ps[k]) = (ps.take (k + 1)).map f ++ ps.drop (k + 1) := by
  have hl : ((ps.take k).map f).length = k := by rw [List.length_map, List.length_take]; omega
  rw [List.set_append_right _ _ (by omega), hl, Nat.sub_self, List.drop_eq_getElem_cons hk, List.set_cons_zero, List.take_succ_eq_append_getElem hk, List.map_append, List.append_assoc]; rfl
theorem flat_set : ∀ (ps : List FV) (k m : Nat) (hk : k < ps.length), (ps.set k ((m, ps[k].1.2), ps[k].2)).flatMap fdv = (ps.flatMap fdv).set (k * 3) (.int .i64 (m : Nat))
  | x :: ps, 0, m, _ => by simp [fdv]
  | x :: ps, k + 1, m, hk => by
    have := flat_set ps k m (by simpa using hk)
    simp only [List.set_cons_succ, List.flatMap_cons, List.getElem_cons_succ, this]
    have e : (k + 1) * 3 = k * 3 + 1 + 1 + 1 := by omega
    rw [e]
    simp [fdv]
  | [], _, _, hk => by simp at hk
theorem founds_open {W : World} {base : Nat} {v : Value} {ps : List FV} (h : FoundsV W base v ps) (hl : 0 < ps.length) : ∃ g cap, v = .slice (some ⟨g, 0, none⟩) ps.length cap ∧ base ≤ g ∧ g < W.heap.size ∧ ps.length ≤ cap ∧ cap ≤ 9223372036854775807 ∧
    ∀ k (hk : k < ps.length), W.cell? ⟨g, k * 3, none⟩ = some (.int .i64 (ps[k].1.1 : Nat)) ∧ W.frozen? ⟨g, k * 3, none⟩ = false ∧
      ∀ m : Nat, FoundsV (W.setCell ⟨g, k * 3, none⟩ (.int .i64 (m : Nat))) base v (ps.set k ((m, ps[k].1.2), ps[k].2)) := by
  obtain ⟨⟨hlen, h1⟩, h2⟩ := h
  rcases h1 with ⟨rfl, h0⟩ | ⟨g, cap, cur, rfl, hb, hg, hn, hc, hs, ht⟩
  · omega
  · have hB : Blk W g 57 cur := hg
    unfold maxLen at hc
    refine ⟨g, cap, rfl, hb, hB.lt, hn, by omega, fun k hk => ⟨?_, hB.frozen _, fun m => ?_⟩⟩
    · rw [hB.cell]
      have := flat_at (f := fdv) (k := 3) (fun _ => rfl) ps k hk 0 (by omega)
      rw [← ht, List.getElem?_take_of_lt (by omega)] at this
      simpa [fdv] using this
    · have hB2 := hB.set (k * 3) (.int .i64 (m : Nat))
      refine ⟨⟨?_, .inr ⟨g, cap, _, by rw [List.length_set], hb, hB2, by rw [List.length_set]; exact hn, by unfold maxLen; omega, by simpa using hs, ?_⟩⟩, ?_⟩
      · rw [flat_set ps k m hk, List.length_set, hlen, List.length_set]
      · rw [List.length_set, flat_set ps k m hk, Array.toList_setIfInBounds, List.take_set, ht]
      · intro q hq
        rcases List.mem_or_eq_of_mem_set hq with hq | rfl
        · exact (h2 q hq).set hB (by decide) _ _
        · exact (h2 ps[k] (List.getElem_mem hk)).set hB (by decide) _ _

set_option maxRecDepth 100000 in
set_option maxHeartbeats 2000000 in
theorem fmoved_any (base b2 : Nat) (F : Nat → Prop) (p : Nat) (K : List UInt8) (n : Nat) (over : Bool) (ps : List FV) (v : Value) (w : World) (h : FdS 80 base F w p K n over) (hv : FoundsV w b2 v ps) (hn : n ≤ 1000000000) (hp : ∀ q ∈ ps, q.1.1 ≤ 1000000000) :
    Calls Try.prog 46 #[.pointer (some ⟨p, 0, none⟩), v] w fun e w' => e = .returned v ∧ FoundsV w' b2 v (ps.map (shV n)) ∧ Fr (fun i => v.ownBlock = some i) w w' := by
  obtain ⟨kv, h1, -, -, -⟩ := h
  obtain ⟨a, c, e, hc1, hc2⟩ : ∃ a c, v = .slice a ps.length c ∧ ps.length ≤ c ∧ c ≤ 9223372036854775807 := by
    obtain ⟨a, c, e, q1, q2, _⟩ := (Sl.of_own hv.1).open
    unfold maxLen at q2
    exact ⟨a, c, e, q1, by omega⟩
  subst e
  have hpb := blk_ne_row h1 hv.1 (by decide)
  have HPB := Lib.hid hpb
  have HV := Lib.hid hv
  have HP := Lib.hid hp
  clear hv hpb hp
  go_enter Try.func46, Try.ntmps46
  go_wp2
  go_loopw [8] (fun i wr => (∃ k : Nat, k ≤ ps.length ∧ i = .int .i64 k ∧ RowKit.Hid (FoundsV wr b2 (.slice a ps.length c) ((ps.take k).map (shV n) ++ ps.drop k))) ∧ Fr (fun i => (Value.slice a ps.length c).ownBlock = some i) w wr) (fun i _ => ps.length - (intOf i).toNat)
  case atStart => exact ⟨⟨0, Nat.zero_le _, rfl, by show FoundsV _ _ _ _; simpa using HV.out⟩, Fr.refl _ _⟩
  case round =>
    obtain ⟨⟨k, hk, rfl, hI⟩, hF⟩ := hrel
    by_cases hlt : k < ps.length
    · have hql : ((ps.take k).map (shV n) ++ ps.drop k).length = ps.length := by rw [List.length_append, List.length_map, List.length_take, List.length_drop]; omega
      obtain ⟨g, cap, e, q1, q2, q3, q4, hset⟩ := founds_open hI.out (by omega)
      have hkq : k < ((ps.take k).map (shV n) ++ ps.drop k).length := by omega
      obtain ⟨x0, x1, hs⟩ := hset k hkq
      have hgk : ((ps.take k).map (shV n) ++ ps.drop k)[k] = ps[k] := mid_get (shV n) ps k hlt
      rw [hgk] at x0
      have hs2 := hs (ps[k].1.1 + n)
      have hset2 : ((ps.take k).map (shV n) ++ ps.drop k).set k ((ps[k].1.1 + n, (((ps.take k).map (shV n) ++ ps.drop k)[k]).1.2), (((ps.take k).map (shV n) ++ ps.drop k)[k]).2) = (ps.take (k + 1)).map (shV n) ++ ps.drop (k + 1) := by
        rw [hgk]; exact mid_set (shV n) ps k hlt
      rw [hset2] at hs2
      have hpl := HP.out ps[k] (List.getElem_mem hlt)
      generalize ps[k].1.1 = m at x0 hs2 hpl
      obtain ⟨ea, ec⟩ : a = some ⟨g, 0, none⟩ ∧ c = cap := by
        simp only [Value.slice.injEq] at e; exact ⟨e.1, e.2.2⟩
      subst ea ec
      have hne : p ≠ g := fun e => HPB.out (by rw [e]; rfl)
      obtain ⟨-, y1, -, -, -, -⟩ := cells3 (h1.fr hF (fun e => HPB.out e.symm))
      have HS := Lib.hid hs2
      have hg2 : (fun i => (Value.slice (some ⟨g, 0, none⟩) ps.length c).ownBlock = some i) g := rfl
      have hF2 := (hF.set g (k * 3) (.int .i64 ((m + n : Nat) : Int)) (fun _ => hg2)).drew
      have HF2 := Lib.hid hF2
      have z0 : (0 : Int) ≤ (k : Int) := by omega
      have z1 : (k : Int) < (ps.length : Int) := by omega
      clear hset hs hgk hset2 hs2 hkq hql e hI hg2 hF2
      push_cast at HS HF2
      go_wp2
      go_region
      go_wp2
      go_roundw
      case rel => exact ⟨⟨k + 1, by omega, by go_num, by show FoundsV _ _ _ _; exact HS.out.grew (Drew.grew ⟨1, rfl⟩)⟩, HF2.out⟩
      case measure => simp [intOf]; omega
    · obtain rfl : k = ps.length := by omega
      go_wp2
      go_ret
      have := hI.out
      rw [List.take_length, List.drop_length, List.append_nil] at this
      exact ⟨rfl, this, hF⟩
end Go.Proofs.Ytoinndlialimcaa
