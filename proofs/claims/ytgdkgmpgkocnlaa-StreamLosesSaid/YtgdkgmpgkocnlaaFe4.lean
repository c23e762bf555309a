/- Package feeder: Feed, End. ; Package feeder: drop. ; Package feeder: moved, drop. ; Package feeder: the window, and what a feeder holds. -/
import Derived.Test.YtgdkgmpgkocnlaaFr7
import Derived.Deep.RegionLaw
namespace Go.Proofs.Ytgdkgmpgkocnlaa
open Go Go.RowKit Go.Shelf

/-- append of bytes to a row of the call's own; where the new row lies -/
theorem wpList_pushAt {W : World} {ops : Array Oper} {rest : List Oper} {o : Oper} {a : Act} {Q : Exit → Act → World → Prop} (hgd : o.guard = none) (s x : Operand)
    (ho : o.op = .call { callee := .builtin .append, args := #[s, x], argTypes := #[25, 25] })
    (base : Nat) (v : Value) (l : List UInt8) (hs : a.eval s = v) (hown : OwnB W base v l) (xv : Value) (hx : a.eval x = xv) (m : List UInt8) (hsl : Bs W xv m)
    (hlen : l.length + m.length ≤ 140737488355328) (hbase : base ≤ W.heap.size)
    (h : ∀ v' w', OwnB w' base v' (l ++ m) → Below base W w' → W.grownBy w' v.ownBlock → (v'.ownBlock = v.ownBlock ∨ v'.ownBlock = some W.heap.size) → wpList Try.prog ops Q rest (a.put o.dst v') w') : wpList Try.prog ops Q (o :: rest) a W := by
  obtain ⟨i0, hi, hz0, hz1, hz2⟩ := info_parts info_u8
  rcases hsl.shape with ⟨rfl, h0, h1⟩ | ⟨ad, cap, rfl, _, _, hl, hc⟩
  · obtain rfl : m = [] := List.eq_nil_of_length_eq_zero h0
    exact wpList_append_own_none hgd s x 25 ho base 5 i0 1 Try.underlying25 hi v _ _ hs hown hx (by simpa using h v W (by simpa using hown) (Below.refl _ _) (World.grownBy.refl _ _) (.inl rfl))
  · refine wpList_plain hgd fun K hK => ?_
    obtain ⟨v', w', hr, h2, h3, _, h5⟩ := run_append_own_at (P := Try.prog) W base 25 o.type 5 i0 (.int .u8 0) 1 1 Try.underlying25 hi hz0 hz1 hz2 rfl (by decide) v l.length (bv l) hown ad m.length cap (bv m) hl hc (bv_one m) (by unfold maxLen; omega) (by omega) hbase
    unfold Oper.wp execOp
    simp only [ho, resolve, invoke, builtin, Sem.run_bind, Sem.run_pure, Result.andThen_ok, List.map_toArray, List.map_cons, List.map_nil, hs, hx, hr]
    exact hK _ _ (h v' w' (by rw [OwnB, bv_append, List.length_append]; exact h2) (grownBy_below h3 hown hbase) h3 h5)

/-- block p is a feeder: what it keeps, a number, and whether it is over; F: the blocks that are its own -/
def FdS (t : TypeId) (base : Nat) (F : Nat → Prop) (w : World) (p : Nat) (K : List UInt8) (n : Nat) (over : Bool) : Prop :=
  ∃ v, Blk w p t #[v, .int .i64 n, .bool over] ∧ OwnB w base v K ∧ base ≤ p ∧ ∀ k, F k ↔ (k = p ∨ v.ownBlock = some k)
theorem FdS.grew {t : TypeId} {base : Nat} {F : Nat → Prop} {w w' : World} {p : Nat} {K : List UInt8} {n : Nat} {over : Bool} (h : FdS t base F w p K n over) (g : Grew w w') : FdS t base F w' p K n over := by
  obtain ⟨v, h1, h2, h3, h4⟩ := h
  exact ⟨v, h1.grew g, own_grew h2 g, h3, h4⟩
theorem FdS.fr {t : TypeId} {base : Nat} {F G : Nat → Prop} {w w' : World} {p : Nat} {K : List UInt8} {n : Nat} {over : Bool} (h : FdS t base F w p K n over) (hf : Fr G w w') (hd : ∀ k, F k → ¬ G k) : FdS t base F w' p K n over := by
  obtain ⟨v, h1, h2, h3, h4⟩ := h
  exact ⟨v, h1.fr hf (hd p ((h4 p).2 (.inl rfl))), own_fr h2 hf (fun g hg => hd g ((h4 g).2 (.inr hg))), h3, h4⟩
theorem FdS.own {t : TypeId} {base : Nat} {F : Nat → Prop} {w : World} {p : Nat} {K : List UInt8} {n : Nat} {over : Bool} (h : FdS t base F w p K n over) : ∀ k, F k → base ≤ k ∧ k < w.heap.size := by
  obtain ⟨v, h1, h2, h3, h4⟩ := h
  intro k hk
  rcases (h4 k).1 hk with rfl | hk
  · exact ⟨h3, h1.lt⟩
  · exact own_lt h2 k hk
/-- what a call on a feeder leaves -/
def FdP (t : TypeId) (base : Nat) (F : Nat → Prop) (p : Nat) (K : List UInt8) (n : Nat) (over : Bool) (w w' : World) : Prop :=
  ∃ F', FdS t base F' w' p K n over ∧ Fr F w w' ∧ ∀ k, F' k → F k ∨ w.heap.size ≤ k
theorem FdP.mk_grew {t : TypeId} {base : Nat} {F : Nat → Prop} {w w' : World} {p : Nat} {K : List UInt8} {n : Nat} {over : Bool} (h : FdS t base F w p K n over) (g : Grew w w') : FdP t base F p K n over w w' :=
  ⟨F, h.grew g, Fr.of_grew g, fun _ hk => .inl hk⟩
/-- then a call that leaves the feeder as it is, and turns new blocks alone -/
theorem FdP.post {t : TypeId} {base : Nat} {F : Nat → Prop} {w w1 w' : World} {p : Nat} {K : List UInt8} {n : Nat} {over : Bool} (h : FdP t base F p K n over w w1) (g : Grew w1 w') : FdP t base F p K n over w w' := by
  obtain ⟨F', h1, h2, h3⟩ := h
  exact ⟨F', h1.grew g, h2.trans (Fr.of_grew g), h3⟩
theorem FdP.pre {t : TypeId} {base : Nat} {F : Nat → Prop} {w w1 w' : World} {p : Nat} {K : List UInt8} {n : Nat} {over : Bool} (g : Grew w w1) (h : FdP t base F p K n over w1 w') : FdP t base F p K n over w w' := by
  obtain ⟨F', h1, h2, h3⟩ := h
  refine ⟨F', h1, (Fr.of_grew g).trans h2, fun k hk => ?_⟩
  rcases h3 k hk with h | h
  · exact .inl h
  · exact .inr (Nat.le_trans g.size h)
theorem cells3 {w : World} {b : Nat} {t : TypeId} {x y z : Value} (h : Blk w b t #[x, y, z]) : w.cell? ⟨b, 0, none⟩ = some x ∧ w.cell? ⟨b, 1, none⟩ = some y ∧ w.cell? ⟨b, 2, none⟩ = some z ∧ w.frozen? ⟨b, 0, none⟩ = false ∧ w.frozen? ⟨b, 1, none⟩ = false ∧ w.frozen? ⟨b, 2, none⟩ = false := by
  refine ⟨?_, ?_, ?_, h.frozen 0, h.frozen 1, h.frozen 2⟩
  · have := h.cell 0; simpa using this
  · have := h.cell 1; simpa using this
  · have := h.cell 2; simpa using this
theorem ownB_shape {w : World} {base : Nat} {v : Value} {l : List UInt8} (h : OwnB w base v l) : ∃ a c, v = .slice a l.length c ∧ l.length ≤ c ∧ c ≤ 9223372036854775807 := by
  obtain ⟨a, c, e, h1, h2, _⟩ := (Sl.of_own h).open
  unfold maxLen at h2
  exact ⟨a, c, e, h1, by omega⟩

end Go.Proofs.Ytgdkgmpgkocnlaa
namespace Go.Proofs.Ytgdkgmpgkocnlaa
open Go Go.RowKit Go.Shelf

/-- frames at places further on -/
def shV (n : Nat) (p : FV) : FV := ((p.1.1 + n, p.1.2), p.2)
theorem mid_len {α : Type} (f : α → α) (ps : List α) (k : Nat) (hk : k ≤ ps.length) : ((ps.take k).map f ++ ps.drop k).length = ps.length := by
  rw [List.length_append, List.length_map, List.length_take, List.length_drop]; omega
theorem mid_get {α : Type} (f : α → α) (ps : List α) (k : Nat) (hk : k < ps.length) : ((ps.take k).map f ++ ps.drop k)[k]'(by rw [mid_len f ps k (by omega)]; exact hk) = ps[k] := by
  have hl : ((ps.take k).map f).length = k := by rw [List.length_map, List.length_take]; omega
  rw [List.getElem_append_right (by omega), List.getElem_drop]
  congr 1; omega
theorem mid_set {α : Type} (f : α → α) (ps : List α) (k : Nat) (hk : k < ps.length) : ((ps.take k).map f ++ ps.drop k).set k (f ps[k]) = (ps.take (k + 1)).map f ++ ps.drop (k + 1) := by
  have hl : ((ps.take k).map f).length = k := by rw [List.length_map, List.length_take]; omega
  rw [List.set_append_right _ _ (by omega), hl, Nat.sub_self, List.drop_eq_getElem_cons hk, List.set_cons_zero, List.take_succ_eq_append_getElem hk, List.map_append, List.append_assoc]; rfl
theorem flat_set : ∀ (ps : List FV) (k m : Nat) (hk : k < ps.length), (ps.set k ((m, ps[k].1.2), ps[k].2)).flatMap fdv = (ps.flatMap fdv).set (k * 3) (.int .i64 (m : Nat))
  | x :: ps, 0, m, _ => by simp [fdv]
  | x :: ps, k + 1, m, hk => by
    have := flat_set ps k m (by simpa using hk)
    simp only [List.set_cons_succ, List.flatMap_cons, List.getElem_cons_succ, this]
    have e : (k + 1) * 3 = k * 3 + 1 + 1 + 1 := by omega
    rw [e]
    simp [fdv]
  | [], _, _, hk => by simp at hk
theorem founds_open {W : World} {base : Nat} {v : Value} {ps : List FV} (h : FoundsV W base v ps) (hl : 0 < ps.length) : ∃ g cap, v = .slice (some ⟨g, 0, none⟩) ps.length cap ∧ base ≤ g ∧ g < W.heap.size ∧ ps.length ≤ cap ∧ cap ≤ 9223372036854775807 ∧
    ∀ k (hk : k < ps.length), W.cell? ⟨g, k * 3, none⟩ = some (.int .i64 (ps[k].1.1 : Nat)) ∧ W.frozen? ⟨g, k * 3, none⟩ = false ∧
      ∀ m : Nat, FoundsV (W.setCell ⟨g, k * 3, none⟩ (.int .i64 (m : Nat))) base v (ps.set k ((m, ps[k].1.2), ps[k].2)) := by
  obtain ⟨⟨hlen, h1⟩, h2⟩ := h
  rcases h1 with ⟨rfl, h0⟩ | ⟨g, cap, cur, rfl, hb, hg, hn, hc, hs, ht⟩
  · omega
  · have hB : Blk W g 38 cur := hg
    unfold maxLen at hc
    refine ⟨g, cap, rfl, hb, hB.lt, hn, by omega, fun k hk => ⟨?_, hB.frozen _, fun m => ?_⟩⟩
    · rw [hB.cell]
      have := flat_at (f := fdv) (k := 3) (fun _ => rfl) ps k hk 0 (by omega)
      rw [← ht, List.getElem?_take_of_lt (by omega)] at this
      simpa [fdv] using this
    · have hB2 := hB.set (k * 3) (.int .i64 (m : Nat))
      refine ⟨⟨?_, .inr ⟨g, cap, _, by rw [List.length_set], hb, hB2, by rw [List.length_set]; exact hn, by unfold maxLen; omega, by simpa using hs, ?_⟩⟩, ?_⟩
      · rw [flat_set ps k m hk, List.length_set, hlen, List.length_set]
      · rw [List.length_set, flat_set ps k m hk, Array.toList_setIfInBounds, List.take_set, ht]
      · intro q hq
        rcases List.mem_or_eq_of_mem_set hq with hq | rfl
        · exact (h2 q hq).set hB (by decide) _ _
        · exact (h2 ps[k] (List.getElem_mem hk)).set hB (by decide) _ _

end Go.Proofs.Ytgdkgmpgkocnlaa
namespace Go.Proofs.Ytgdkgmpgkocnlaa
open Go Go.RowKit Go.Shelf

/-- copy(v, v[k:]) on a row of the call's own, as one step of a region that draws -/
theorem step_copyB {ops : Array Oper} {o : Oper} {a : Act} {W : World} {K : Act → World → Prop} {Q : Exit → Act → World → Prop} {E : Prop} (hgd : o.guard = none) (d s : Operand)
    (ho : o.op = .call { callee := .builtin .copy, args := #[d, s], argTypes := #[25, 25] })
    (base : Nat) (ad : Option Addr) (c : Nat) (l : List UInt8) (hd : a.eval d = .slice ad l.length c) (hown : OwnB W base (.slice ad l.length c) l) (k : Nat) (hk : k ≤ l.length) (sa : Option Addr) (sc : Nat) (hs : a.eval s = .slice sa (l.length - k) sc) (hsv : Bs W (.slice sa (l.length - k) sc) (l.drop k))
    (h : ∀ w', OwnB w' base (.slice ad (l.length - k) c) (l.drop k) → Fr (fun i => (Value.slice ad l.length c).ownBlock = some i) W w' → K (a.put o.dst (.int .i64 (l.length - k : Nat))) w') :
    if Region.wanted o (yielded ops a.tmps) = true then Oper.wp Try.prog o a W K Q else E := by
  have hw : Region.wanted o (yielded ops a.tmps) = true := by simp [Region.wanted, hgd]
  rw [if_pos hw]
  have hsz : (Try.prog.info? 5).map (·.size) = some 1 := by kernel_rfl
  have hdl : (l.drop k).length = l.length - k := List.length_drop
  by_cases h0 : l.length - k = 0
  · have hrun := run_copy_none (P := Try.prog) W 25 25 o.type 5 ad sa l.length c (l.length - k) sc Try.underlying25 hsz (by rw [h0]; exact Nat.zero_min _)
    unfold Oper.wp
    simp [execOp, ho, resolve, invoke, builtin, hd, hs, hrun, Result.andThen]
    have hnil : l.drop k = [] := List.eq_nil_of_length_eq_zero (by omega)
    have := h W (by
      rw [hnil, h0]
      refine ⟨rfl, ?_⟩
      rcases hown.2 with ⟨e, _⟩ | ⟨g, cap, cur, e, hb, hg, hn, hc, hs, ht⟩
      · simp only [Value.slice.injEq] at e
        obtain ⟨rfl, -, rfl⟩ := e
        exact .inl ⟨rfl, rfl⟩
      · simp only [Value.slice.injEq] at e
        obtain ⟨rfl, -, rfl⟩ := e
        exact .inr ⟨g, c, cur, rfl, hb, hg, Nat.zero_le _, hc, hs, by simp [bv]⟩) (Fr.refl _ _)
    rw [h0] at this
    exact this
  · rcases hown.2 with ⟨e, _⟩ | ⟨g, cap, cur, e, hb, hg, hn, hc, hcs, ht⟩
    · simp only [Value.slice.injEq] at e
      omega
    · simp only [Value.slice.injEq] at e
      obtain ⟨rfl, -, rfl⟩ := e
      obtain ⟨-, sa', sc', e, hq1, -, hz, hcell⟩ := hsv
      simp only [Value.slice.injEq] at e
      obtain ⟨rfl, -, rfl⟩ := e
      obtain ⟨sad, rfl⟩ : ∃ sad, sa = some sad := by
        cases sa with
        | some x => exact ⟨x, rfl⟩
        | none => have := hz rfl; omega
      have hcl := hcell sad rfl
      have hmin : (bv (l.drop k)).length = Nat.min (l.length - k) l.length := by
        rw [bv_length, hdl]; exact (Nat.min_eq_left (by omega)).symm
      have hct : cur.toList.length = cur.size := by simp
      have htl : l.length * 1 ≤ cur.size := by
        have := congrArg List.length ht
        rw [List.length_take, bv_length] at this
        omega
      have hrun := run_copy_row (P := Try.prog) W 25 25 o.type 5 g 0 l.length c sad (l.length - k) sc cur 5 (bv (l.drop k)) Try.underlying25 hsz hg hmin hcl (by rw [bv_length, hdl]; omega) (bv_one _)
      unfold Oper.wp
      simp [execOp, ho, resolve, invoke, builtin, hd, hs, hrun, Result.andThen]
      have hgt : goInt ((l.length - k : Nat) : Int) = .int .i64 ((l.length - k : Nat) : Int) := rfl
      have hB2 := (show Blk W g 5 cur from hg).row (bv (l.drop k) ++ cur.toList.drop (bv (l.drop k)).length).toArray
      have := h (W.setRow g (bv (l.drop k) ++ cur.toList.drop (bv (l.drop k)).length).toArray) ⟨by rw [bv_length, hdl]; omega, .inr ⟨g, c, _, by rw [hdl], hb, hB2, by rw [hdl]; omega, hc, by simp [hdl]; omega, by rw [hdl, Nat.mul_one]; simp [hdl]⟩⟩
        ⟨rfl, rfl, rfl, by simp [World.setRow], fun i hi hn => setRow_other W g i _ (fun e => hn (by rw [e]; rfl))⟩
      have e : (bv (l.drop k)).length = l.length - k := by rw [bv_length, hdl]
      rw [e] at this
      exact this

end Go.Proofs.Ytgdkgmpgkocnlaa
namespace Go.Proofs.Ytgdkgmpgkocnlaa
open Go Go.RowKit Go.Shelf

theorem FoundsV.fr2 {S : Nat → Prop} {W W' : World} {base : Nat} {v : Value} {ps : List FV} (h : FoundsV W base v ps) (hf : Fr S W W') (hs : ∀ k, S k → k < base) : FoundsV W' base v ps :=
  ⟨own_fr h.1 hf (fun g hg hS => by have := (own_lt h.1 g hg).1; have := hs g hS; omega), fun p hp => (h.2 p hp).fr hf (fun g hg hS => by have := ((h.2 p hp).2 g hg).1; have := hs g hS; omega)⟩
theorem FOs.fr2 {S : Nat → Prop} {W W' : World} {base : Nat} {v : Value} {fs : List Fnd} (h : FOs W base v fs) (hf : Fr S W W') (hs : ∀ k, S k → k < base) : FOs W' base v fs := by
  obtain ⟨ps, e, h⟩ := h; exact ⟨ps, e, h.fr2 hf hs⟩
/-- frames at places further on -/
def shF (n : Nat) (fs : List Fnd) : List Fnd := fs.map fun x => (x.1 + n, x.2)
theorem shF_map (n : Nat) (ps : List FV) : (ps.map (shV n)).map (·.1) = shF n (ps.map (·.1)) := by simp [shF, shV]
theorem FOs.nil (W : World) (base : Nat) : FOs W base (.slice none 0 0) [] := ⟨[], rfl, FoundsV.nil _ _⟩
/-- what a call on a feeder leaves, and tells: its frames lie in rows above all that is the feeder's own -/
def FdQ (t : TypeId) (base : Nat) (F : Nat → Prop) (p : Nat) (K : List UInt8) (n : Nat) (over : Bool) (v : Value) (fs : List Fnd) (w w' : World) : Prop :=
  ∃ (F' : Nat → Prop) (b : Nat), FdS t base F' w' p K n over ∧ Fr F w w' ∧ (∀ k, F' k → F k ∨ w.heap.size ≤ k) ∧ w.heap.size ≤ b ∧ FOs w' b v fs ∧ ∀ k, F' k → k < b
theorem FdQ.p {t : TypeId} {base : Nat} {F : Nat → Prop} {p : Nat} {K : List UInt8} {n : Nat} {over : Bool} {v : Value} {fs : List Fnd} {w w' : World} (h : FdQ t base F p K n over v fs w w') : FdP t base F p K n over w w' := by
  obtain ⟨F', b, h1, h2, h3, _⟩ := h; exact ⟨F', h1, h2, h3⟩
theorem FdQ.fos {t : TypeId} {base : Nat} {F : Nat → Prop} {p : Nat} {K : List UInt8} {n : Nat} {over : Bool} {v : Value} {fs : List Fnd} {w w' : World} (h : FdQ t base F p K n over v fs w w') : FOs w' w.heap.size v fs := by
  obtain ⟨F', b, _, _, _, h4, h5, _⟩ := h; exact h5.mono h4
theorem FdQ.same {t : TypeId} {base : Nat} {F : Nat → Prop} {p : Nat} {K : List UInt8} {n : Nat} {over : Bool} {w : World} (h : FdS t base F w p K n over) : FdQ t base F p K n over (.slice none 0 0) [] w w :=
  ⟨F, w.heap.size, h, Fr.refl _ _, fun _ h => .inl h, Nat.le_refl _, FOs.nil _ _, fun k hk => (h.own k hk).2⟩
/-- what a piece more tells, and leaves -/
def fdOut (K m : List UInt8) (n : Nat) (over : Bool) : List Fnd := if over then [] else shF n (walkL false (K ++ m) 0).1
def fdK (K m : List UInt8) (over : Bool) : List UInt8 := if over then K else (K ++ m).drop (walkL false (K ++ m) 0).2.2
def fdN (K m : List UInt8) (n : Nat) (over : Bool) : Nat := if over then n else n + (walkL false (K ++ m) 0).2.2

/-- what the end tells -/
def fdEnd (K : List UInt8) (n : Nat) (over : Bool) : List Fnd := if over then [] else shF n (walkL true K 0).1
end Go.Proofs.Ytgdkgmpgkocnlaa
