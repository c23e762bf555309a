/- Package feeder: Feed, End. ; Package feeder: drop. ; Package feeder: moved, drop. ; Package feeder: the window, and what a feeder holds. -/
import Derived.Test.YtbjoohafgkodcaaGreatFr7
import Derived.Deep.RegionLaw
namespace Go.Proofs.YtbjoohafgkodcaaGreat
open Go Go.RowKit Go.Shelf

/-- append of bytes to a row of the call's own; where the new row lies -/
theorem wpList_pushAt {W : World} {ops : Array Oper} {rest : List Oper} {o : Oper} {a : Act} {Q : Exit → Act → World → Prop} (hgd : o.guard = none) (s x : Operand)
    (ho : o.op = .call { callee := .builtin .append, args := #[s, x], argTypes := #[22, 22] })
    (base : Nat) (v : Value) (l : List UInt8) (hs : a.eval s = v) (hown : OwnB W base v l) (xv : Value) (hx : a.eval x = xv) (m : List UInt8) (hsl : Bs W xv m)
    (hlen : l.length + m.length ≤ 140737488355328) (hbase : base ≤ W.heap.size)
    (h : ∀ v' w', OwnB w' base v' (l ++ m) → Below base W w' → W.grownBy w' v.ownBlock → (v'.ownBlock = v.ownBlock ∨ v'.ownBlock = some W.heap.size) → wpList Tryz.prog ops Q rest (a.put o.dst v') w') : wpList Tryz.prog ops Q (o :: rest) a W := by
  obtain ⟨i0, hi, hz0, hz1, hz2⟩ := info_parts info_u8
  rcases hsl.shape with ⟨rfl, h0, h1⟩ | ⟨ad, cap, rfl, _, _, hl, hc⟩
  · obtain rfl : m = [] := List.eq_nil_of_length_eq_zero h0
    exact wpList_append_own_none hgd s x 22 ho base 5 i0 1 Tryz.underlying22 hi v _ _ hs hown hx (by simpa using h v W (by simpa using hown) (Below.refl _ _) (World.grownBy.refl _ _) (.inl rfl))
  · refine wpList_plain hgd fun K hK => ?_
    obtain ⟨v', w', hr, h2, h3, _, h5⟩ := run_append_own_at (P := Tryz.prog) W base 22 o.type 5 i0 (.int .u8 0) 1 1 Tryz.underlying22 hi hz0 hz1 hz2 rfl (by decide) v l.length (bv l) hown ad m.length cap (bv m) hl hc (bv_one m) (by unfold maxLen; omega) (by omega) hbase
    unfold Oper.wp execOp
    simp only [ho, resolve, invoke, builtin, Sem.run_bind, Sem.run_pure, Result.andThen_ok, List.map_toArray, List.map_cons, List.map_nil, hs, hx, hr]
    exact hK _ _ (h v' w' (by rw [OwnB, bv_append, List.length_append]; exact h2) (grownBy_below h3 hown hbase) h3 h5)

/-- block p is a feeder: what it keeps, a number, and whether it is over; F: the blocks that are its own -/
def FdS (t : TypeId) (base : Nat) (F : Nat → Prop) (w : World) (p : Nat) (K : List UInt8) (n : Nat) (over : Bool) : Prop :=
  ∃ v, Blk w p t #[v, .int .i64 n, .bool over] ∧ OwnB w base v K ∧ base ≤ p ∧ ∀ k, F k ↔ (k = p ∨ v.ownBlock = some k)
theorem FdS.grew {t : TypeId} {base : Nat} {F : Nat → Prop} {w w' : World} {p : Nat} {K : List UInt8} {n : Nat} {over : Bool} (h : FdS t base F w p K n over) (g : Grew w w') : FdS t base F w' p K n over := by
  obtain ⟨v, h1, h2, h3, h4⟩ := h
  exact ⟨v, h1.grew g, own_grew h2 g, h3, h4⟩
theorem FdS.fr {t : TypeId} {base : Nat} {F G : Nat → Prop} {w w' : World} {p : Nat} {K : List UInt8} {n : Nat} {over : Bool} (h : FdS t base F w p K n over) (hf : Fr G w w') (hd : ∀ k, F k → ¬ G k) : FdS t base F w' p K n over := by
  obtain ⟨v, h1, h2, h3, h4⟩ := h
  exact ⟨v, h1.fr hf (hd p ((h4 p).2 (.inl rfl))), own_fr h2 hf (fun g hg => hd g ((h4 g).2 (.inr hg))), h3, h4⟩
theorem FdS.own {t : TypeId} {base : Nat} {F : Nat → Prop} {w : World} {p : Nat} {K : List UInt8} {n : Nat} {over : Bool} (h : FdS t base F w p K n over) : ∀ k, F k → base ≤ k ∧ k < w.heap.size := by
  obtain ⟨v, h1, h2, h3, h4⟩ := h
  intro k hk
  rcases (h4 k).1 hk with rfl | hk
  · exact ⟨h3, h1.lt⟩
  · exact own_lt h2 k hk
/-- what a call on a feeder leaves -/
def FdP (t : TypeId) (base : Nat) (F : Nat → Prop) (p : Nat) (K : List UInt8) (n : Nat) (over : Bool) (w w' : World) : Prop :=
  ∃ F', FdS t base F' w' p K n over ∧ Fr F w w' ∧ ∀ k, F' k → F k ∨ w.heap.size ≤ k
theorem FdP.mk_grew {t : TypeId} {base : Nat} {F : Nat → Prop} {w w' : World} {p : Nat} {K : List UInt8} {n : Nat} {over : Bool} (h : FdS t base F w p K n over) (g : Grew w w') : FdP t base F p K n over w w' :=
  ⟨F, h.grew g, Fr.of_grew g, fun _ hk => .inl hk⟩
/-- then a call that leaves the feeder as it is, and turns new blocks alone -/
theorem FdP.post {t : TypeId} {base : Nat} {F : Nat → Prop} {w w1 w' : World} {p : Nat} {K : List UInt8} {n : Nat} {over : Bool} (h : FdP t base F p K n over w w1) (g : Grew w1 w') : FdP t base F p K n over w w' := by
  obtain ⟨F', h1, h2, h3⟩ := h
  exact ⟨F', h1.grew g, h2.trans (Fr.of_grew g), h3⟩
theorem FdP.pre {t : TypeId} {base : Nat} {F : Nat → Prop} {w w1 w' : World} {p : Nat} {K : List UInt8} {n : Nat} {over : Bool} (g : Grew w w1) (h : FdP t base F p K n over w1 w') : FdP t base F p K n over w w' := by
  obtain ⟨F', h1, h2, h3⟩ := h
  refine ⟨F', h1, (Fr.of_grew g).trans h2, fun k hk => ?_⟩
  rcases h3 k hk with h | h
  · exact .inl h
  · exact .inr (Nat.le_trans g.size h)
theorem cells3 {w : World} {b : Nat} {t : TypeId} {x y z : Value} (h : Blk w b t #[x, y, z]) : w.cell? ⟨b, 0, none⟩ = some x ∧ w.cell? ⟨b, 1, none⟩ = some y ∧ w.cell? ⟨b, 2, none⟩ = some z ∧ w.frozen? ⟨b, 0, none⟩ = false ∧ w.frozen? ⟨b, 1, none⟩ = false ∧ w.frozen? ⟨b, 2, none⟩ = false := by
  refine ⟨?_, ?_, ?_, h.frozen 0, h.frozen 1, h.frozen 2⟩
  · have := h.cell 0; simpa using this
  · have := h.cell 1; simpa using this
  · have := h.cell 2; simpa using this
theorem ownB_shape {w : World} {base : Nat} {v : Value} {l : List UInt8} (h : OwnB w base v l) : ∃ a c, v = .slice a l.length c ∧ l.length ≤ c ∧ c ≤ 9223372036854775807 := by
  obtain ⟨a, c, e, h1, h2, _⟩ := (Sl.of_own h).open
  unfold maxLen at h2
  exact ⟨a, c, e, h1, by omega⟩

theorem fnew_any (w : World) : Calls Tryz.prog 22 #[] w fun e w' => e = .returned (.pointer (some ⟨w.heap.size, 0, none⟩)) ∧ FdS 86 w.heap.size (· = w.heap.size) w' w.heap.size [] 0 false ∧ Grew w w' := by
  go_enter Tryz.func22, Tryz.ntmps22
  go_wp2
  go_ret
  exact ⟨rfl, ⟨_, Blk.new _ _ _, ownB_nil _ _, Nat.le_refl _, fun k => by simp [Value.ownBlock]⟩, grew_alloc _ _⟩
theorem fshut_any (base : Nat) (F : Nat → Prop) (p : Nat) (K : List UInt8) (n : Nat) (over : Bool) (w : World) (h : FdS 86 base F w p K n over) :
    Calls Tryz.prog 44 #[.pointer (some ⟨p, 0, none⟩)] w fun e w' => e = .returned (.bool over) ∧ w = w' := by
  obtain ⟨v, h1, -, -, -⟩ := h
  obtain ⟨-, -, x2, -, -, -⟩ := cells3 h1
  clear h1
  go_enter Tryz.func44, Tryz.ntmps44
  go_wp2
  go_ret
  exact ⟨rfl, rfl⟩
theorem fshut_nil (w : World) : Calls Tryz.prog 44 #[.pointer none] w fun e w' => e = .returned (.bool true) ∧ w = w' := by
  go_enter Tryz.func44, Tryz.ntmps44
  go_wp2
  go_ret
  exact ⟨rfl, rfl⟩
theorem fheld_any (base : Nat) (F : Nat → Prop) (p : Nat) (K : List UInt8) (n : Nat) (over : Bool) (w : World) (h : FdS 86 base F w p K n over) :
    Calls Tryz.prog 25 #[.pointer (some ⟨p, 0, none⟩)] w fun e w' => e = .returned (.int .i64 (if over then 0 else K.length : Nat)) ∧ w = w' := by
  have ks := fshut_any base F p K n over w h
  obtain ⟨v, h1, h2, -, -⟩ := h
  obtain ⟨a, c, rfl, -, -⟩ := ownB_shape h2
  obtain ⟨x0, -, -, -, -, -⟩ := cells3 h1
  have KS := Lib.hid ks
  clear h1 h2 ks
  cases over with
  | true =>
    go_enter Tryz.func25, Tryz.ntmps25
    go_wp2_with fail
    refine KS.out.mono ?_
    rintro e w1 ⟨rfl, rfl⟩
    go_wp2
    go_ret
    exact ⟨rfl, rfl⟩
  | false =>
    go_enter Tryz.func25, Tryz.ntmps25
    go_wp2_with fail
    refine KS.out.mono ?_
    rintro e w1 ⟨rfl, rfl⟩
    go_wp2
    go_ret
    exact ⟨rfl, rfl⟩
theorem fheld_nil (w : World) : Calls Tryz.prog 25 #[.pointer none] w fun e w' => e = .returned (.int .i64 0) ∧ w = w' := by
  go_enter Tryz.func25, Tryz.ntmps25
  go_wp2_with fail
  refine (fshut_nil _).mono ?_
  rintro e w1 ⟨rfl, rfl⟩
  go_wp2
  go_ret
  exact ⟨rfl, rfl⟩
theorem fadd_any (base : Nat) (F : Nat → Prop) (p : Nat) (K m : List UInt8) (n : Nat) (over : Bool) (x : Value) (w : World) (h : FdS 86 base F w p K n over) (hx : Bs w x m) (hl : K.length + m.length ≤ 1000000000) :
    Calls Tryz.prog 45 #[.pointer (some ⟨p, 0, none⟩), x] w fun e w' => (∃ u, e = .returned u) ∧ FdP 86 base F p (K ++ m) n over w w' := by
  obtain ⟨v, h1, h2, h3, h4⟩ := id h
  obtain ⟨a, c, rfl, -, -⟩ := ownB_shape h2
  obtain ⟨ax, cx, rfl⟩ := bs_len hx
  have hne : some p ≠ (Value.slice a K.length c).ownBlock := blk_ne_row h1 h2 (by decide)
  have HN := Lib.hid hne
  have H4 := Lib.hid h4
  have H2 := Lib.hid h2
  have HX := Lib.hid hx
  obtain ⟨x0, x1, x2, y0, y1, y2⟩ := cells3 h1
  clear h2 hne h4 hx h
  go_enter Tryz.func45, Tryz.ntmps45
  go_wp2_with (at_builtin; refine wpList_pushAt rfl _ _ rfl base _ K rfl H2.out _ rfl m HX.out (by omega) (by have := h1.lt; omega) ?_; intro v' w2 hown2 hB2 hgb0 hat; have hgb : w.grownBy w2 (Value.slice a K.length c).ownBlock := hgb0; clear hgb0; obtain ⟨a', c', hv', -, -⟩ := ownB_shape hown2; rw [List.length_append] at hv'; subst hv'; have hb2 := h1.kept hgb HN.out; obtain ⟨q0, -, -, f0, -, -⟩ := cells3 hb2)
  go_end0
  have hg := Fr.of_grown (S := F) hgb (fun k hk => (H4.out k).2 (.inr hk))
  have hne2 : (Value.slice a' (K.length + m.length) c').ownBlock ≠ some p := fun e' => blk_ne_row hb2 hown2 (by decide) e'.symm
  refine ⟨⟨_, rfl⟩, fun k => k = p ∨ (Value.slice a' (K.length + m.length) c').ownBlock = some k, ⟨_, hb2.set 0 _, own_set hown2 _ _ hne2, h3, fun k => Iff.rfl⟩, hg.set p 0 _ (fun _ => (H4.out p).2 (.inl rfl)), ?_⟩
  have hat' : (Value.slice a' (K.length + m.length) c').ownBlock = (Value.slice a K.length c).ownBlock ∨ (Value.slice a' (K.length + m.length) c').ownBlock = some w.heap.size := hat
  rintro k (rfl | hk)
  · exact .inl ((H4.out k).2 (.inl rfl))
  · rcases hat' with hat | hat
    · exact .inl ((H4.out k).2 (.inr (by rw [← hat]; exact hk)))
    · rw [hat] at hk
      cases hk
      right; exact Nat.le_refl _
end Go.Proofs.YtbjoohafgkodcaaGreat
namespace Go.Proofs.YtbjoohafgkodcaaGreat
open Go Go.RowKit Go.Shelf

/-- frames at places further on -/
def shV (n : Nat) (p : FV) : FV := ((p.1.1 + n, p.1.2), p.2)
theorem mid_len {α : Type} (f : α → α) (ps : List α) (k : Nat) (hk : k ≤ ps.length) : ((ps.take k).map f ++ ps.drop k).length = ps.length := by
  rw [List.length_append, List.length_map, List.length_take, List.length_drop]; omega
theorem mid_get {α : Type} (f : α → α) (ps : List α) (k : Nat) (hk : k < ps.length) : ((ps.take k).map f ++ ps.drop k)[k]'(by rw [mid_len f ps k (by omega)]; exact hk) = ps[k] := by
  have hl : ((ps.take k).map f).length = k := by rw [List.length_map, List.length_take]; omega
  rw [List.getElem_append_right (by omega), List.getElem_drop]
  congr 1; omega
theorem mid_set {α : Type} (f : α → α) (ps : List α) (k : Nat) (hk : k < ps.length) : ((ps.take k).map f ++ ps.drop k).set k (f ps[k]) = (ps.take (k + 1)).map f ++ ps.drop (k + 1) := by
  have hl : ((ps.take k).map f).length = k := by rw [List.length_map, List.length_take]; omega
  rw [List.set_append_right _ _ (by omega), hl, Nat.sub_self, List.drop_eq_getElem_cons hk, List.set_cons_zero, List.take_succ_eq_append_getElem hk, List.map_append, List.append_assoc]; rfl
theorem flat_set : ∀ (ps : List FV) (k m : Nat) (hk : k < ps.length), (ps.set k ((m, ps[k].1.2), ps[k].2)).flatMap fdv = (ps.flatMap fdv).set (k * 3) (.int .i64 (m : Nat))
  | x :: ps, 0, m, _ => by simp [fdv]
  | x :: ps, k + 1, m, hk => by
    have := flat_set ps k m (by simpa using hk)
    simp only [List.set_cons_succ, List.flatMap_cons, List.getElem_cons_succ, this]
    have e : (k + 1) * 3 = k * 3 + 1 + 1 + 1 := by omega
    rw [e]
    simp [fdv]
  | [], _, _, hk => by simp at hk
theorem founds_open {W : World} {base : Nat} {v : Value} {ps : List FV} (h : FoundsV W base v ps) (hl : 0 < ps.length) : ∃ g cap, v = .slice (some ⟨g, 0, none⟩) ps.length cap ∧ base ≤ g ∧ g < W.heap.size ∧ ps.length ≤ cap ∧ cap ≤ 9223372036854775807 ∧
    ∀ k (hk : k < ps.length), W.cell? ⟨g, k * 3, none⟩ = some (.int .i64 (ps[k].1.1 : Nat)) ∧ W.frozen? ⟨g, k * 3, none⟩ = false ∧
      ∀ m : Nat, FoundsV (W.setCell ⟨g, k * 3, none⟩ (.int .i64 (m : Nat))) base v (ps.set k ((m, ps[k].1.2), ps[k].2)) := by
  obtain ⟨⟨hlen, h1⟩, h2⟩ := h
  rcases h1 with ⟨rfl, h0⟩ | ⟨g, cap, cur, rfl, hb, hg, hn, hc, hs, ht⟩
  · omega
  · have hB : Blk W g 61 cur := hg
    unfold maxLen at hc
    refine ⟨g, cap, rfl, hb, hB.lt, hn, by omega, fun k hk => ⟨?_, hB.frozen _, fun m => ?_⟩⟩
    · rw [hB.cell]
      have := flat_at (f := fdv) (k := 3) (fun _ => rfl) ps k hk 0 (by omega)
      rw [← ht, List.getElem?_take_of_lt (by omega)] at this
      simpa [fdv] using this
    · have hB2 := hB.set (k * 3) (.int .i64 (m : Nat))
      refine ⟨⟨?_, .inr ⟨g, cap, _, by rw [List.length_set], hb, hB2, by rw [List.length_set]; exact hn, by unfold maxLen; omega, by simpa using hs, ?_⟩⟩, ?_⟩
      · rw [flat_set ps k m hk, List.length_set, hlen, List.length_set]
      · rw [List.length_set, flat_set ps k m hk, Array.toList_setIfInBounds, List.take_set, ht]
      · intro q hq
        rcases List.mem_or_eq_of_mem_set hq with hq | rfl
        · exact (h2 q hq).set hB (by decide) _ _
        · exact (h2 ps[k] (List.getElem_mem hk)).set hB (by decide) _ _

set_option maxRecDepth 100000 in
set_option maxHeartbeats 2000000 in
theorem fmoved_any (base b2 : Nat) (F : Nat → Prop) (p : Nat) (K : List UInt8) (n : Nat) (over : Bool) (ps : List FV) (v : Value) (w : World) (h : FdS 86 base F w p K n over) (hv : FoundsV w b2 v ps) (hn : n ≤ 1000000000) (hp : ∀ q ∈ ps, q.1.1 ≤ 1000000000) :
    Calls Tryz.prog 47 #[.pointer (some ⟨p, 0, none⟩), v] w fun e w' => e = .returned v ∧ FoundsV w' b2 v (ps.map (shV n)) ∧ Fr (fun i => v.ownBlock = some i) w w' := by
  obtain ⟨kv, h1, -, -, -⟩ := h
  obtain ⟨a, c, e, hc1, hc2⟩ : ∃ a c, v = .slice a ps.length c ∧ ps.length ≤ c ∧ c ≤ 9223372036854775807 := by
    obtain ⟨a, c, e, q1, q2, _⟩ := (Sl.of_own hv.1).open
    unfold maxLen at q2
    exact ⟨a, c, e, q1, by omega⟩
  subst e
  have hpb := blk_ne_row h1 hv.1 (by decide)
  have HPB := Lib.hid hpb
  have HV := Lib.hid hv
  have HP := Lib.hid hp
  clear hv hpb hp
  go_enter Tryz.func47, Tryz.ntmps47
  go_wp2
  go_loopw [8] (fun i wr => (∃ k : Nat, k ≤ ps.length ∧ i = .int .i64 k ∧ RowKit.Hid (FoundsV wr b2 (.slice a ps.length c) ((ps.take k).map (shV n) ++ ps.drop k))) ∧ Fr (fun i => (Value.slice a ps.length c).ownBlock = some i) w wr) (fun i _ => ps.length - (intOf i).toNat)
  case atStart => exact ⟨⟨0, Nat.zero_le _, rfl, by show FoundsV _ _ _ _; simpa using HV.out⟩, Fr.refl _ _⟩
  case round =>
    obtain ⟨⟨k, hk, rfl, hI⟩, hF⟩ := hrel
    by_cases hlt : k < ps.length
    · have hql : ((ps.take k).map (shV n) ++ ps.drop k).length = ps.length := by rw [List.length_append, List.length_map, List.length_take, List.length_drop]; omega
      obtain ⟨g, cap, e, q1, q2, q3, q4, hset⟩ := founds_open hI.out (by omega)
      have hkq : k < ((ps.take k).map (shV n) ++ ps.drop k).length := by omega
      obtain ⟨x0, x1, hs⟩ := hset k hkq
      have hgk : ((ps.take k).map (shV n) ++ ps.drop k)[k] = ps[k] := mid_get (shV n) ps k hlt
      rw [hgk] at x0
      have hs2 := hs (ps[k].1.1 + n)
      have hset2 : ((ps.take k).map (shV n) ++ ps.drop k).set k ((ps[k].1.1 + n, (((ps.take k).map (shV n) ++ ps.drop k)[k]).1.2), (((ps.take k).map (shV n) ++ ps.drop k)[k]).2) = (ps.take (k + 1)).map (shV n) ++ ps.drop (k + 1) := by
        rw [hgk]; exact mid_set (shV n) ps k hlt
      rw [hset2] at hs2
      have hpl := HP.out ps[k] (List.getElem_mem hlt)
      generalize ps[k].1.1 = m at x0 hs2 hpl
      obtain ⟨ea, ec⟩ : a = some ⟨g, 0, none⟩ ∧ c = cap := by
        simp only [Value.slice.injEq] at e; exact ⟨e.1, e.2.2⟩
      subst ea ec
      have hne : p ≠ g := fun e => HPB.out (by rw [e]; rfl)
      obtain ⟨-, y1, -, -, -, -⟩ := cells3 (h1.fr hF (fun e => HPB.out e.symm))
      have HS := Lib.hid hs2
      have hg2 : (fun i => (Value.slice (some ⟨g, 0, none⟩) ps.length c).ownBlock = some i) g := rfl
      have hF2 := (hF.set g (k * 3) (.int .i64 ((m + n : Nat) : Int)) (fun _ => hg2)).drew
      have HF2 := Lib.hid hF2
      have z0 : (0 : Int) ≤ (k : Int) := by omega
      have z1 : (k : Int) < (ps.length : Int) := by omega
      clear hset hs hgk hset2 hs2 hkq hql e hI hg2 hF2
      push_cast at HS HF2
      go_wp2
      go_region
      go_wp2
      go_roundw
      case rel => exact ⟨⟨k + 1, by omega, by go_num, by show FoundsV _ _ _ _; exact HS.out.grew (Drew.grew ⟨1, rfl⟩)⟩, HF2.out⟩
      case measure => simp [intOf]; omega
    · obtain rfl : k = ps.length := by omega
      go_wp2
      go_ret
      have := hI.out
      rw [List.take_length, List.drop_length, List.append_nil] at this
      exact ⟨rfl, this, hF⟩
end Go.Proofs.YtbjoohafgkodcaaGreat
namespace Go.Proofs.YtbjoohafgkodcaaGreat
open Go Go.RowKit Go.Shelf

/-- copy(v, v[k:]) on a row of the call's own, as one step of a region that draws -/
theorem step_copyB {ops : Array Oper} {o : Oper} {a : Act} {W : World} {K : Act → World → Prop} {Q : Exit → Act → World → Prop} {E : Prop} (hgd : o.guard = none) (d s : Operand)
    (ho : o.op = .call { callee := .builtin .copy, args := #[d, s], argTypes := #[22, 22] })
    (base : Nat) (ad : Option Addr) (c : Nat) (l : List UInt8) (hd : a.eval d = .slice ad l.length c) (hown : OwnB W base (.slice ad l.length c) l) (k : Nat) (hk : k ≤ l.length) (sa : Option Addr) (sc : Nat) (hs : a.eval s = .slice sa (l.length - k) sc) (hsv : Bs W (.slice sa (l.length - k) sc) (l.drop k))
    (h : ∀ w', OwnB w' base (.slice ad (l.length - k) c) (l.drop k) → Fr (fun i => (Value.slice ad l.length c).ownBlock = some i) W w' → K (a.put o.dst (.int .i64 (l.length - k : Nat))) w') :
    if Region.wanted o (yielded ops a.tmps) = true then Oper.wp Tryz.prog o a W K Q else E := by
  have hw : Region.wanted o (yielded ops a.tmps) = true := by simp [Region.wanted, hgd]
  rw [if_pos hw]
  have hsz : (Tryz.prog.info? 5).map (·.size) = some 1 := by kernel_rfl
  have hdl : (l.drop k).length = l.length - k := List.length_drop
  by_cases h0 : l.length - k = 0
  · have hrun := run_copy_none (P := Tryz.prog) W 22 22 o.type 5 ad sa l.length c (l.length - k) sc Tryz.underlying22 hsz (by rw [h0]; exact Nat.zero_min _)
    unfold Oper.wp
    simp [execOp, ho, resolve, invoke, builtin, hd, hs, hrun, Result.andThen]
    have hnil : l.drop k = [] := List.eq_nil_of_length_eq_zero (by omega)
    have := h W (by
      rw [hnil, h0]
      refine ⟨rfl, ?_⟩
      rcases hown.2 with ⟨e, _⟩ | ⟨g, cap, cur, e, hb, hg, hn, hc, hs, ht⟩
      · simp only [Value.slice.injEq] at e
        obtain ⟨rfl, -, rfl⟩ := e
        exact .inl ⟨rfl, rfl⟩
      · simp only [Value.slice.injEq] at e
        obtain ⟨rfl, -, rfl⟩ := e
        exact .inr ⟨g, c, cur, rfl, hb, hg, Nat.zero_le _, hc, hs, by simp [bv]⟩) (Fr.refl _ _)
    rw [h0] at this
    exact this
  · rcases hown.2 with ⟨e, _⟩ | ⟨g, cap, cur, e, hb, hg, hn, hc, hcs, ht⟩
    · simp only [Value.slice.injEq] at e
      omega
    · simp only [Value.slice.injEq] at e
      obtain ⟨rfl, -, rfl⟩ := e
      obtain ⟨-, sa', sc', e, hq1, -, hz, hcell⟩ := hsv
      simp only [Value.slice.injEq] at e
      obtain ⟨rfl, -, rfl⟩ := e
      obtain ⟨sad, rfl⟩ : ∃ sad, sa = some sad := by
        cases sa with
        | some x => exact ⟨x, rfl⟩
        | none => have := hz rfl; omega
      have hcl := hcell sad rfl
      have hmin : (bv (l.drop k)).length = Nat.min (l.length - k) l.length := by
        rw [bv_length, hdl]; exact (Nat.min_eq_left (by omega)).symm
      have hct : cur.toList.length = cur.size := by simp
      have htl : l.length * 1 ≤ cur.size := by
        have := congrArg List.length ht
        rw [List.length_take, bv_length] at this
        omega
      have hrun := run_copy_row (P := Tryz.prog) W 22 22 o.type 5 g 0 l.length c sad (l.length - k) sc cur 5 (bv (l.drop k)) Tryz.underlying22 hsz hg hmin hcl (by rw [bv_length, hdl]; omega) (bv_one _)
      unfold Oper.wp
      simp [execOp, ho, resolve, invoke, builtin, hd, hs, hrun, Result.andThen]
      have hgt : goInt ((l.length - k : Nat) : Int) = .int .i64 ((l.length - k : Nat) : Int) := rfl
      have hB2 := (show Blk W g 5 cur from hg).row (bv (l.drop k) ++ cur.toList.drop (bv (l.drop k)).length).toArray
      have := h (W.setRow g (bv (l.drop k) ++ cur.toList.drop (bv (l.drop k)).length).toArray) ⟨by rw [bv_length, hdl]; omega, .inr ⟨g, c, _, by rw [hdl], hb, hB2, by rw [hdl]; omega, hc, by simp [hdl]; omega, by rw [hdl, Nat.mul_one]; simp [hdl]⟩⟩
        ⟨rfl, rfl, rfl, by simp [World.setRow], fun i hi hn => setRow_other W g i _ (fun e => hn (by rw [e]; rfl))⟩
      have e : (bv (l.drop k)).length = l.length - k := by rw [bv_length, hdl]
      rw [e] at this
      exact this

set_option maxRecDepth 100000 in
set_option maxHeartbeats 2000000 in
theorem fdrop_any (base : Nat) (F : Nat → Prop) (p : Nat) (K : List UInt8) (n : Nat) (over : Bool) (k : Nat) (hk : k ≤ K.length) (hn : n ≤ 1000000000) (hK : K.length ≤ 1000000000) (w : World) (h : FdS 86 base F w p K n over) :
    Calls Tryz.prog 48 #[.pointer (some ⟨p, 0, none⟩), .int .i64 k] w fun e w' => (∃ u, e = .returned u) ∧ FdS 86 base F w' p (K.drop k) (n + k) over ∧ Fr F w w' := by
  obtain ⟨v, h1, h2, h3, h4⟩ := id h
  obtain ⟨a, c, rfl, hc1, hc2⟩ := ownB_shape h2
  have hne : some p ≠ (Value.slice a K.length c).ownBlock := blk_ne_row h1 h2 (by decide)
  have HN := Lib.hid hne
  have H4 := Lib.hid h4
  have H2 := Lib.hid h2
  obtain ⟨x0, x1, x2, y0, y1, y2⟩ := cells3 h1
  have z1 : (k : Int) ≤ (K.length : Int) := by omega
  have z2 : (k : Int) ≤ (c : Int) := by omega
  have z3 : K.length ≤ c + k := by omega
  have hsh : (a = none ∧ c = 0 ∧ K = []) ∨ ∃ g, a = some ⟨g, 0, none⟩ := by
    rcases h2.2 with ⟨e, e2⟩ | ⟨g, cap, cur, e, _⟩
    · simp only [Value.slice.injEq] at e
      exact .inl ⟨e.1, e.2.2, List.eq_nil_of_length_eq_zero e.2.1⟩
    · simp only [Value.slice.injEq] at e
      exact .inr ⟨g, e.1⟩
  have gD : Grew w w.drew := Drew.grew ⟨1, rfl⟩
  have ho := own_grew h2 gD
  have hbs := Sl.of_own ho
  have HO := Lib.hid ho
  rcases hsh with ⟨rfl, rfl, rfl⟩ | ⟨g, rfl⟩
  · obtain rfl : k = 0 := by simpa using hk
    have hsv : Bs w.drew (.slice none (([] : List UInt8).length - 0) 0) (([] : List UInt8).drop 0) := Sl.nil _ 1
    have HSV := Lib.hid hsv
    clear h2 hne h4 h ho hbs hsv
    go_enter Tryz.func48, Tryz.ntmps48
    go_wp2
    go_region_law (refine step_copyB rfl (.tmp 12) (.tmp 18) rfl base none 0 [] (by simp [Act.eval, Act.put]) HO.out 0 (Nat.zero_le _) none 0 (by simp [Act.eval, Act.put]) HSV.out ?_; intro w2 ho2 hF2; have h1w := (h1.grew gD).fr hF2 (fun e => HN.out e.symm); obtain ⟨t0, t1, t2, s0, s1, s2⟩ := cells3 h1w)
    all_goals (
      go_wp2
      go_end0
      have hb3 := (h1w.set 0 (.slice none 0 0)).set 1 (.int .i64 ((n : Int) + 0))
      refine ⟨⟨_, rfl⟩, ⟨_, hb3, ?_, h3, fun i => H4.out i⟩, ?_⟩
      · exact own_set (own_set ho2 _ _ (fun e => HN.out e.symm)) _ _ (fun e => HN.out e.symm)
      · exact ((((Fr.of_grew gD).trans' hF2 (fun i _ e => (H4.out i).2 (.inr e))).set p 0 _ (fun _ => (H4.out p).2 (.inl rfl))).set p 1 _ (fun _ => (H4.out p).2 (.inl rfl))))
  · have hsv := bs_dropI hbs k hk
    rw [Nat.zero_add] at hsv
    generalize hsa : (if c = k then some (⟨g, 0, none⟩ : Addr) else some ⟨g, k, none⟩) = sa at hsv
    have HSV := Lib.hid hsv
    have HSA := Lib.hid hsa
    clear h2 hne h4 h ho hbs hsv hsa
    go_enter Tryz.func48, Tryz.ntmps48
    go_wp2
    go_region_law (refine step_copyB rfl (.tmp 12) (.tmp 18) rfl base (some ⟨g, 0, none⟩) c K (by simp [Act.eval, Act.put]) HO.out k hk sa (c - k) (by simp [Act.eval, Act.put, HSA.out]) HSV.out ?_; intro w2 ho2 hF2; have h1w := (h1.grew gD).fr hF2 (fun e => HN.out e.symm); obtain ⟨t0, t1, t2, s0, s1, s2⟩ := cells3 h1w)
    all_goals go_wp2
    all_goals (
      go_end0
      have hpg : p ≠ g := fun e => HN.out (by rw [e]; rfl)
      have hF3 : Fr F w w2 := (Fr.of_grew gD).trans' hF2 (fun i _ e => (H4.out i).2 (.inr e))
      first
        | (refine ⟨⟨_, rfl⟩, ⟨_, (h1w.set 0 _).set 1 _, own_set (own_set ho2 _ _ (fun e => hpg (Option.some.inj e).symm)) _ _ (fun e => hpg (Option.some.inj e).symm), h3, fun i => H4.out i⟩, ((hF3.set p 0 _ (fun _ => (H4.out p).2 (.inl rfl))).set p 1 _ (fun _ => (H4.out p).2 (.inl rfl)))⟩; done)
        | (have hck : c = k := by assumption
           subst hck
           refine ⟨⟨_, rfl⟩, ⟨_, (h1w.set 0 _).set 1 _, own_set (own_set ho2 _ _ (fun e => hpg (Option.some.inj e).symm)) _ _ (fun e => hpg (Option.some.inj e).symm), h3, fun i => H4.out i⟩, ((hF3.set p 0 _ (fun _ => (H4.out p).2 (.inl rfl))).set p 1 _ (fun _ => (H4.out p).2 (.inl rfl)))⟩; done))
end Go.Proofs.YtbjoohafgkodcaaGreat
namespace Go.Proofs.YtbjoohafgkodcaaGreat
open Go Go.RowKit Go.Shelf

theorem FoundsV.fr2 {S : Nat → Prop} {W W' : World} {base : Nat} {v : Value} {ps : List FV} (h : FoundsV W base v ps) (hf : Fr S W W') (hs : ∀ k, S k → k < base) : FoundsV W' base v ps :=
  ⟨own_fr h.1 hf (fun g hg hS => by have := (own_lt h.1 g hg).1; have := hs g hS; omega), fun p hp => (h.2 p hp).fr hf (fun g hg hS => by have := ((h.2 p hp).2 g hg).1; have := hs g hS; omega)⟩
theorem FOs.fr2 {S : Nat → Prop} {W W' : World} {base : Nat} {v : Value} {fs : List Fnd} (h : FOs W base v fs) (hf : Fr S W W') (hs : ∀ k, S k → k < base) : FOs W' base v fs := by
  obtain ⟨ps, e, h⟩ := h; exact ⟨ps, e, h.fr2 hf hs⟩
/-- frames at places further on -/
def shF (n : Nat) (fs : List Fnd) : List Fnd := fs.map fun x => (x.1 + n, x.2)
theorem shF_map (n : Nat) (ps : List FV) : (ps.map (shV n)).map (·.1) = shF n (ps.map (·.1)) := by simp [shF, shV]
theorem FOs.nil (W : World) (base : Nat) : FOs W base (.slice none 0 0) [] := ⟨[], rfl, FoundsV.nil _ _⟩
/-- what a call on a feeder leaves, and tells: its frames lie in rows above all that is the feeder's own -/
def FdQ (t : TypeId) (base : Nat) (F : Nat → Prop) (p : Nat) (K : List UInt8) (n : Nat) (over : Bool) (v : Value) (fs : List Fnd) (w w' : World) : Prop :=
  ∃ (F' : Nat → Prop) (b : Nat), FdS t base F' w' p K n over ∧ Fr F w w' ∧ (∀ k, F' k → F k ∨ w.heap.size ≤ k) ∧ w.heap.size ≤ b ∧ FOs w' b v fs ∧ ∀ k, F' k → k < b
theorem FdQ.p {t : TypeId} {base : Nat} {F : Nat → Prop} {p : Nat} {K : List UInt8} {n : Nat} {over : Bool} {v : Value} {fs : List Fnd} {w w' : World} (h : FdQ t base F p K n over v fs w w') : FdP t base F p K n over w w' := by
  obtain ⟨F', b, h1, h2, h3, _⟩ := h; exact ⟨F', h1, h2, h3⟩
theorem FdQ.fos {t : TypeId} {base : Nat} {F : Nat → Prop} {p : Nat} {K : List UInt8} {n : Nat} {over : Bool} {v : Value} {fs : List Fnd} {w w' : World} (h : FdQ t base F p K n over v fs w w') : FOs w' w.heap.size v fs := by
  obtain ⟨F', b, _, _, _, h4, h5, _⟩ := h; exact h5.mono h4
theorem FdQ.same {t : TypeId} {base : Nat} {F : Nat → Prop} {p : Nat} {K : List UInt8} {n : Nat} {over : Bool} {w : World} (h : FdS t base F w p K n over) : FdQ t base F p K n over (.slice none 0 0) [] w w :=
  ⟨F, w.heap.size, h, Fr.refl _ _, fun _ h => .inl h, Nat.le_refl _, FOs.nil _ _, fun k hk => (h.own k hk).2⟩
/-- what a piece more tells, and leaves -/
def fdOut (K m : List UInt8) (n : Nat) (over : Bool) : List Fnd := if over then [] else shF n (walkL false (K ++ m) 0).1
def fdK (K m : List UInt8) (over : Bool) : List UInt8 := if over then K else (K ++ m).drop (walkL false (K ++ m) 0).2.2
def fdN (K m : List UInt8) (n : Nat) (over : Bool) : Nat := if over then n else n + (walkL false (K ++ m) 0).2.2

set_option maxRecDepth 100000 in
set_option maxHeartbeats 2000000 in
theorem ffeed_any (base : Nat) (F : Nat → Prop) (p : Nat) (K m : List UInt8) (n : Nat) (over : Bool) (x : Value) (w : World) (h : FdS 86 base F w p K n over) (hx : Bs w x m) (hn : n ≤ 100000000) (hl : K.length + m.length ≤ 100000000) :
    Calls Tryz.prog 24 #[.pointer (some ⟨p, 0, none⟩), x] w fun e w' => ∃ v, e = .returned v ∧ FdQ 86 base F p (fdK K m over) (fdN K m n over) over v (fdOut K m n over) w w' := by
  obtain ⟨ax, nx, cx, rfl, -⟩ := bs_shape hx
  have HS := Lib.hid (fshut_any base F p K n over w h)
  cases over with
  | true =>
    have H := Lib.hid h
    clear h hx
    go_enter Tryz.func24, Tryz.ntmps24
    go_wp2_with fail
    refine HS.out.mono ?_
    rintro e w1 ⟨rfl, rfl⟩
    go_wp2
    go_ret
    exact ⟨_, rfl, FdQ.same H.out⟩
  | false =>
    have HA := Lib.hid (fadd_any base F p K m n false (.slice ax nx cx) w h hx (by omega))
    have H := Lib.hid h
    have hL : (K ++ m).length = K.length + m.length := List.length_append
    have hlen : (K ++ m).length ≤ 100000000 := by omega
    simp only [fdOut, fdK, fdN, Bool.false_eq_true, if_false]
    obtain ⟨L, hLL⟩ : ∃ L, L = K ++ m := ⟨_, rfl⟩
    rw [← hLL] at HA hlen ⊢
    have hw1 := walk_at false L 0
    have hw2 := (walk_from false L 0).2.1
    obtain ⟨R, hR⟩ : ∃ R, R = walkL false L 0 := ⟨_, rfl⟩
    have hall := all_any L
    rw [← hR] at hall hw1 hw2 ⊢
    have HALL := Lib.hid hall
    have HW1 := Lib.hid hw1
    clear hR hLL hL hall hw1 h hx
    go_enter Tryz.func24, Tryz.ntmps24
    go_wp2_with fail
    refine HS.out.mono ?_
    rintro e w1 ⟨rfl, rfl⟩
    go_wp2_with fail
    refine HA.out.mono ?_
    rintro e w1 ⟨⟨u, rfl⟩, F1, d1, f1, s1⟩
    obtain ⟨kv, k1, o1, q1, q2⟩ := id d1
    obtain ⟨ka, kc, rfl, -, -⟩ := ownB_shape o1
    obtain ⟨x0, -, -, -, -, -⟩ := cells3 k1
    have D1 := Lib.hid d1
    have F1f := Lib.hid f1
    have S1 := Lib.hid s1
    have O1 := Lib.hid o1
    clear d1 k1 o1 f1 s1 q2
    go_wp2_with fail
    refine (HALL.out _ _ (Sl.of_own O1.out) (by omega)).mono ?_
    rintro e w2 ⟨v2, rfl, ⟨ps, hps, r2⟩, g2⟩
    obtain ⟨a2, c2, e2⟩ : ∃ a c, v2 = .slice a ps.length c := by obtain ⟨a, c, e, _⟩ := (Sl.of_own r2.1).open; exact ⟨a, c, e⟩
    subst e2
    have D2 := Lib.hid (D1.out.grew g2)
    have R2 := Lib.hid r2
    have HPS := Lib.hid hps
    have hple : ∀ q ∈ ps, q.1.1 ≤ 1000000000 := by
      intro q hq
      have hm : q.1 ∈ R.1 := by rw [← hps]; exact List.mem_map.2 ⟨q, hq, rfl⟩
      have := (HW1.out.1 q.1 hm).2.1
      unfold fend at this; omega
    have KM := Lib.hid (fmoved_any base w1.heap.size F1 p L n false ps _ w2 D2.out r2 (by omega) hple)
    clear x0 r2 hps hple
    go_wp2_with fail
    refine KM.out.mono ?_
    rintro e w3 ⟨rfl, r3, f3⟩
    have hF1 : ∀ k, F1 k → k < w1.heap.size := fun k hk => (D1.out.own k hk).2
    have hrow : ∀ i, (Value.slice a2 ps.length c2).ownBlock = some i → w1.heap.size ≤ i := fun i hi => (own_lt R2.out.1 i hi).1
    have D3 := D2.out.fr f3 (fun k hk hi => by have := hF1 k hk; have := hrow k hi; omega)
    have KD := Lib.hid (fdrop_any base F1 p L n false R.2.2 (by omega) (by omega) (by omega) w3 D3)
    have R3 := Lib.hid r3
    have F3 := Lib.hid f3
    have HF1 := Lib.hid hF1
    have HROW := Lib.hid hrow
    clear r3 f3 hF1 hrow D3
    go_wp2_with fail
    refine KD.out.mono ?_
    rintro e w4 ⟨⟨u4, rfl⟩, d4, f4⟩
    have HD4 := Lib.hid d4
    have HF4 := Lib.hid f4
    clear d4 f4
    go_wp2
    go_ret
    have hsz1 : w.heap.size ≤ w1.heap.size := F1f.out.size
    have hsz2 : w1.heap.size ≤ w2.heap.size := g2.size
    have hsz3 : w2.heap.size ≤ w3.heap.size := F3.out.size
    refine ⟨_, rfl, F1, w1.heap.size, HD4.out, ?_, S1.out, hsz1, ⟨ps.map (shV n), by rw [shF_map, HPS.out], R3.out.fr2 HF4.out HF1.out⟩, HF1.out⟩
    have t1 : Fr F w w2 := F1f.out.trans (Fr.of_grew g2)
    have t2 : Fr F w w3 := t1.trans' F3.out (fun i hi hr => by have := HROW.out i hr; omega)
    exact t2.trans' HF4.out (fun i hi hr => by rcases S1.out i hr with h | h; exact h; omega)
theorem ffeed_nil (x : Value) (w : World) : Calls Tryz.prog 24 #[.pointer none, x] w fun e w' => e = .returned (.slice none 0 0) ∧ w = w' := by
  go_enter Tryz.func24, Tryz.ntmps24
  go_wp2_with fail
  refine (fshut_nil _).mono ?_
  rintro e w1 ⟨rfl, rfl⟩
  go_wp2
  go_ret
  exact ⟨rfl, rfl⟩
/-- what the end tells -/
def fdEnd (K : List UInt8) (n : Nat) (over : Bool) : List Fnd := if over then [] else shF n (walkL true K 0).1
end Go.Proofs.YtbjoohafgkodcaaGreat
