/- Where bytes were passed over, in plain words; rows of such places. -/
import Derived.Test.YthjfgefkahgenaaFrH
namespace Go.Proofs.Ythjfgefkahgenaa
open Go Go.RowKit Go.Shelf

/-- from .. to -/
abbrev GV := Nat × Nat
def gdv (p : GV) : List Value := [.int .i64 (p.1 : Nat), .int .i64 (p.2 : Nat)]
def GapsV (W : World) (base : Nat) (v : Value) (ps : List GV) : Prop := W.ownsRow base 42 2 v ps.length (ps.flatMap gdv)
theorem info_gap : (Try.prog.info? 42).map (fun i => (i.zero, i.size, i.bytes)) = some (some (.agg #[.int .i64 0, .int .i64 0]), 2, 16) := by kernel_rfl
theorem gflat_set : ∀ (ps : List GV) (k m : Nat) (hk : k < ps.length), (ps.set k (ps[k].1, m)).flatMap gdv = (ps.flatMap gdv).set (k * 2 + 1) (.int .i64 (m : Nat))
  | x :: ps, 0, m, _ => by simp [gdv]
  | x :: ps, k + 1, m, hk => by
    have := gflat_set ps k m (by simpa using hk)
    simp only [List.set_cons_succ, List.flatMap_cons, List.getElem_cons_succ, this]
    have e : (k + 1) * 2 + 1 = k * 2 + 1 + 1 + 1 := by omega
    rw [e]
    simp [gdv]
  | [], _, _, hk => by simp at hk
theorem gaps_open {W : World} {base : Nat} {v : Value} {ps : List GV} (h : GapsV W base v ps) (hl : 0 < ps.length) : ∃ g cap, v = .slice (some ⟨g, 0, none⟩) ps.length cap ∧ base ≤ g ∧ g < W.heap.size ∧ ps.length ≤ cap ∧ cap ≤ 9223372036854775807 ∧
    ∀ k (hk : k < ps.length), W.cell? ⟨g, k * 2, none⟩ = some (.int .i64 (ps[k].1 : Nat)) ∧ W.cell? ⟨g, k * 2 + 1, none⟩ = some (.int .i64 (ps[k].2 : Nat)) ∧ W.frozen? ⟨g, k * 2 + 1, none⟩ = false ∧
      ∀ m : Nat, GapsV (W.setCell ⟨g, k * 2 + 1, none⟩ (.int .i64 (m : Nat))) base v (ps.set k (ps[k].1, m)) := by
  obtain ⟨hlen, h1⟩ := h
  rcases h1 with ⟨rfl, h0⟩ | ⟨g, cap, cur, rfl, hb, hg, hn, hc, hs, ht⟩
  · omega
  · have hB : Blk W g 42 cur := hg
    unfold maxLen at hc
    refine ⟨g, cap, rfl, hb, hB.lt, hn, by omega, fun k hk => ⟨?_, ?_, hB.frozen _, fun m => ?_⟩⟩
    · rw [hB.cell]
      have := flat_at (f := gdv) (k := 2) (fun _ => rfl) ps k hk 0 (by omega)
      rw [← ht, List.getElem?_take_of_lt (by omega)] at this
      simpa [gdv] using this
    · rw [hB.cell]
      have := flat_at (f := gdv) (k := 2) (fun _ => rfl) ps k hk 1 (by omega)
      rw [← ht, List.getElem?_take_of_lt (by omega)] at this
      simpa [gdv] using this
    · have hB2 := hB.set (k * 2 + 1) (.int .i64 (m : Nat))
      refine ⟨?_, .inr ⟨g, cap, _, by rw [List.length_set], hb, hB2, by rw [List.length_set]; exact hn, by unfold maxLen; omega, by simpa using hs, ?_⟩⟩
      · rw [gflat_set ps k m hk, List.length_set, hlen, List.length_set]
      · rw [List.length_set, gflat_set ps k m hk, Array.toList_setIfInBounds, List.take_set, ht]
theorem GapsV.push {w' : World} {base : Nat} {v' : Value} {ps : List GV} {p : GV} (h1 : w'.ownsRow base 42 2 v' (ps.length + 1) (ps.flatMap gdv ++ gdv p)) : GapsV w' base v' (ps ++ [p]) := by
  unfold GapsV
  rw [List.length_append, List.flatMap_append]; simpa using h1
theorem gdv_one (p : GV) : ∀ u ∈ gdv p, u.oneCell' = true := by
  intro u hu
  simp only [gdv, List.mem_cons, List.not_mem_nil, or_false] at hu
  rcases hu with rfl | rfl <;> rfl
theorem wpList_pushG {W : World} {ops : Array Oper} {rest : List Oper} {o : Oper} {a : Act} {Q : Exit → Act → World → Prop} (hgd : o.guard = none) (s x : Operand)
    (ho : o.op = .call { callee := .builtin .append, args := #[s, x], argTypes := #[39, 39] })
    (base : Nat) (v : Value) (ps : List GV) (hs : a.eval s = v) (hown : GapsV W base v ps) (xv : Value) (hx : a.eval x = xv) (p : GV) (hsl : Sl W xv 1 2 (gdv p))
    (hlen : ps.length + 1 ≤ 1000000000) (hbase : base ≤ W.heap.size)
    (h : ∀ v' w', GapsV w' base v' (ps ++ [p]) → Below base W w' → W.grownBy w' v.ownBlock → wpList Try.prog ops Q rest (a.put o.dst v') w') : wpList Try.prog ops Q (o :: rest) a W := by
  obtain ⟨i0, hi, hz0, hz1, hz2⟩ := info_parts info_gap
  exact wpList_app hgd s x 39 ho base 42 i0 (.agg #[.int .i64 0, .int .i64 0]) 2 16 Try.underlying39 hi hz0 hz1 hz2 rfl (by decide) v ps.length _ hs hown xv 1 (gdv p) hx hsl (gdv_one p) (by unfold maxLen; omega) (by omega) hbase
    fun v' w' h1 h2 => h v' w' (GapsV.push h1) (grownBy_below h2 hown hbase) h2
theorem wpListIn_pushG {F : Fence} {n : Nat} {W : World} {ops : Array Oper} {rest : List Oper} {o : Oper} {a : Act} {Q : Exit → Act → World → Prop} (hgd : o.guard = none) (s x : Operand)
    (ho : o.op = .call { callee := .builtin .append, args := #[s, x], argTypes := #[39, 39] })
    (base : Nat) (v : Value) (ps : List GV) (hs : a.eval s = v) (hown : GapsV W base v ps) (xv : Value) (hx : a.eval x = xv) (p : GV) (hsl : Sl W xv 1 2 (gdv p))
    (hlen : ps.length + 1 ≤ 1000000000) (hbase : base ≤ W.heap.size)
    (h : ∀ v' w', GapsV w' base v' (ps ++ [p]) → Below base W w' → W.grownBy w' v.ownBlock → wpListIn F n Try.prog ops Q rest (a.put o.dst v') w') : wpListIn F n Try.prog ops Q (o :: rest) a W := by
  obtain ⟨i0, hi, hz0, hz1, hz2⟩ := info_parts info_gap
  exact wpListIn_app hgd s x 39 ho base 42 i0 (.agg #[.int .i64 0, .int .i64 0]) 2 16 Try.underlying39 hi hz0 hz1 hz2 rfl (by decide) v ps.length _ hs hown xv 1 (gdv p) hx hsl (gdv_one p) (by unfold maxLen; omega) (by omega) hbase
    fun v' w' h1 h2 => h v' w' (GapsV.push h1) (grownBy_below h2 hown hbase) h2

/-! ## the places -/
def tailG (s k : Nat) : List GV := if s < k then [(s, k)] else []
/-- from at, between the frames, to e -/
def refG (e : Nat) : List Fnd → Nat → List GV
  | [], s => tailG s e
  | x :: fs, s => tailG s x.1 ++ refG e fs (fend x)
def gapsL (l : List UInt8) : List GV := refG (walkL false l 0).2.2 (walkL false l 0).1 0
theorem tailG_len (s k : Nat) : (tailG s k).length ≤ 1 := by unfold tailG; split <;> simp
/-- what is known at place k -/
def GI (l : List UInt8) (k : Nat) (out : List GV) : Prop := ∃ (done : List GV) (s : Nat), out = done ++ tailG s k ∧ s ≤ k ∧ (∀ p ∈ done, p.2 < s) ∧ out.length ≤ k ∧ done.length ≤ s ∧
  gapsL l = done ++ refG (walkL false (l.drop k) k).2.2 (walkL false (l.drop k) k).1 s
theorem GI.nil (l : List UInt8) : GI l 0 [] := ⟨[], 0, by simp [tailG], Nat.le_refl _, (fun p h => by cases h), by simp, by simp, by simp [gapsL]⟩
theorem GI.stop {l : List UInt8} {k : Nat} {out : List GV} (h : GI l k out) (h4 : ferr (l.drop k) = 4) : out = gapsL l := by
  obtain ⟨done, s, h1, h2, h3, h5, h6, h7⟩ := h
  rw [walkL_short k h4] at h7
  rw [h7, h1]; rfl
theorem GI.fin {l : List UInt8} {out : List GV} (h : GI l l.length out) : out = gapsL l := by
  obtain ⟨done, s, h1, h2, h3, h5, h6, h7⟩ := h
  rw [List.drop_length, walkL_nil] at h7
  rw [h7, h1]; rfl
theorem GI.ok {l : List UInt8} {k : Nat} {out : List GV} (h : GI l k out) (h0 : ferr (l.drop k) = 0) : GI l (k + (flen (l.drop k) + 9)) out := by
  obtain ⟨done, s, h1, h2, h3, h5, h6, h7⟩ := h
  have hf := fof_len (ferr_zero h0).1
  rw [walkL_ok k h0, List.drop_drop] at h7
  refine ⟨out, k + (flen (l.drop k) + 9), by simp [tailG], Nat.le_refl _, ?_, by omega, by omega, ?_⟩
  · intro p hp
    rw [h1] at hp
    rcases List.mem_append.1 hp with hp | hp
    · have := h3 p hp; omega
    · unfold tailG at hp
      split at hp
      · rw [List.mem_singleton.1 hp]; simp only; omega
      · cases hp
  · rw [h7, h1, List.append_assoc]
    show _ ++ (tailG s k ++ refG _ _ (k + ((fof (l.drop k)).2.length + 9))) = _
    rw [hf]
theorem last_tail {done : List GV} {s k : Nat} (hlt : s < k) : done ++ tailG s k = done ++ [(s, k)] := by unfold tailG; rw [if_pos hlt]
theorem GI.pass {l : List UInt8} {k : Nat} {out : List GV} (h : GI l k out) (hk : k < l.length) (he : ferr (l.drop k) ≠ 0) (h4 : ferr (l.drop k) ≠ 4) :
    (∃ hn : out.length - 1 < out.length, out[out.length - 1].2 = k ∧ GI l (k + 1) (out.set (out.length - 1) (out[out.length - 1].1, k + 1))) ∨ ((∀ hn : out.length - 1 < out.length, out[out.length - 1].2 ≠ k) ∧ GI l (k + 1) (out ++ [(k, k + 1)])) := by
  obtain ⟨done, s, h1, h2, h3, h5, h6, h7⟩ := h
  have hne : l.drop k ≠ [] := by intro e; have : (l.drop k).length = 0 := by rw [e]; rfl
                                 rw [List.length_drop] at this; omega
  rw [walkL_pass k hne he (fun h => absurd h h4), List.drop_drop] at h7
  by_cases hs : s < k
  · left
    rw [last_tail hs] at h1
    have hl : out.length = done.length + 1 := by rw [h1]; simp
    have hn : out.length - 1 < out.length := by omega
    have hget : out[out.length - 1] = (s, k) := by
      simp only [h1, List.length_append, List.length_singleton, Nat.add_sub_cancel]
      rw [List.getElem_append_right (Nat.le_refl _)]; simp
    refine ⟨hn, by rw [hget], ?_⟩
    rw [hget]
    have hset : out.set (out.length - 1) (s, k + 1) = done ++ [(s, k + 1)] := by
      rw [hl, Nat.add_sub_cancel, h1, List.set_append_right _ _ (Nat.le_refl _), Nat.sub_self]; rfl
    simp only
    rw [hset]
    refine ⟨done, s, by rw [last_tail (by omega)], by omega, h3, by simp; omega, h6, h7⟩
  · right
    have hsk : s = k := by omega
    subst hsk
    have ht : tailG s s = [] := by simp [tailG]
    rw [ht, List.append_nil] at h1
    subst h1
    refine ⟨fun hn e => ?_, ?_⟩
    · have := h3 _ (List.getElem_mem hn)
      omega
    · refine ⟨out, s, by rw [last_tail (by omega)], by omega, h3, by simp; omega, h6, h7⟩
end Go.Proofs.Ythjfgefkahgenaa
