/- Package feeder: the window, and what a feeder holds. -/
import Derived.Test.YtoinndlialimcaaFrV
namespace Go.Proofs.Ytoinndlialimcaa
open Go Go.RowKit Go.Shelf

/-- append of bytes to a row of the call's own; where the new row lies -/
theorem wpList_pushAt {W : World} {ops : Array Oper} {rest : List Oper} {o : Oper} {a : Act} {Q : Exit → Act → World → Prop} (hgd : o.guard = none) (s x : Operand)
    (ho : o.op = .call { callee := .builtin .append, args := #[s, x], argTypes := #[22, 22] })
    (base : Nat) (v : Value) (l : List UInt8) (hs : a.eval s = v) (hown : OwnB W base v l) (xv : Value) (hx : a.eval x = xv) (m : List UInt8) (hsl : Bs W xv m)
    (hlen : l.length + m.length ≤ 140737488355328) (hbase : base ≤ W.heap.size)
    (h : ∀ v' w', OwnB w' base v' (l ++ m) → Below base W w' → W.grownBy w' v.ownBlock → (v'.ownBlock = v.ownBlock ∨ v'.ownBlock = some W.heap.size) → wpList Try.prog ops Q rest (a.put o.dst v') w') : wpList Try.prog ops Q (o :: rest) a W := by
  obtain ⟨i0, hi, hz0, hz1, hz2⟩ := info_parts info_u8
  rcases hsl.shape with ⟨rfl, h0, h1⟩ | ⟨ad, cap, rfl, _, _, hl, hc⟩
  · obtain rfl : m = [] := List.eq_nil_of_length_eq_zero h0
    exact wpList_append_own_none hgd s x 22 ho base 5 i0 1 Try.underlying22 hi v _ _ hs hown hx (by simpa using h v W (by simpa using hown) (Below.refl _ _) (World.grownBy.refl _ _) (.inl rfl))
  · refine wpList_plain hgd fun K hK => ?_
    obtain ⟨v', w', hr, h2, h3, _, h5⟩ := run_append_own_at (P := Try.prog) W base 22 o.type 5 i0 (.int .u8 0) 1 1 Try.underlying22 hi hz0 hz1 hz2 rfl (by decide) v l.length (bv l) hown ad m.length cap (bv m) hl hc (bv_one m) (by unfold maxLen; omega) (by omega) hbase
    unfold Oper.wp execOp
    simp only [ho, resolve, invoke, builtin, Sem.run_bind, Sem.run_pure, Result.andThen_ok, List.map_toArray, List.map_cons, List.map_nil, hs, hx, hr]
    exact hK _ _ (h v' w' (by rw [OwnB, bv_append, List.length_append]; exact h2) (grownBy_below h3 hown hbase) h3 h5)

/-- block p is a feeder: what it keeps, a number, and whether it is over; F: the blocks that are its own -/
def FdS (t : TypeId) (base : Nat) (F : Nat → Prop) (w : World) (p : Nat) (K : List UInt8) (n : Nat) (over : Bool) : Prop :=
  ∃ v, Blk w p t #[v, .int .i64 n, .bool over] ∧ OwnB w base v K ∧ base ≤ p ∧ ∀ k, F k ↔ (k = p ∨ v.ownBlock = some k)
theorem FdS.grew {t : TypeId} {base : Nat} {F : Nat → Prop} {w w' : World} {p : Nat} {K : List UInt8} {n : Nat} {over : Bool} (h : FdS t base F w p K n over) (g : Grew w w') : FdS t base F w' p K n over := by
  obtain ⟨v, h1, h2, h3, h4⟩ := h
  exact ⟨v, h1.grew g, own_grew h2 g, h3, h4⟩
theorem FdS.fr {t : TypeId} {base : Nat} {F G : Nat → Prop} {w w' : World} {p : Nat} {K : List UInt8} {n : Nat} {over : Bool} (h : FdS t base F w p K n over) (hf : Fr G w w') (hd : ∀ k, F k → ¬ G k) : FdS t base F w' p K n over := by
  obtain ⟨v, h1, h2, h3, h4⟩ := h
  exact ⟨v, h1.fr hf (hd p ((h4 p).2 (.inl rfl))), own_fr h2 hf (fun g hg => hd g ((h4 g).2 (.inr hg))), h3, h4⟩
theorem FdS.own {t : TypeId} {base : Nat} {F : Nat → Prop} {w : World} {p : Nat} {K : List UInt8} {n : Nat} {over : Bool} (h : FdS t base F w p K n over) : ∀ k, F k → base ≤ k ∧ k < w.heap.size := by
  obtain ⟨v, h1, h2, h3, h4⟩ := h
  intro k hk
  rcases (h4 k).1 hk with rfl | hk
  · exact ⟨h3, h1.lt⟩
  · exact own_lt h2 k hk
/-- what a call on a feeder leaves -/
def FdP (t : TypeId) (base : Nat) (F : Nat → Prop) (p : Nat) (K : List UInt8) (n : Nat) (over : Bool) (w w' : World) : Prop :=
  ∃ F', FdS t base F' w' p K n over ∧ Fr F w w' ∧ ∀ k, F' k → F k ∨ w.heap.size ≤ k
theorem FdP.mk_grew {t : TypeId} {base : Nat} {F : Nat → Prop} {w w' : World} {p : Nat} {K : List UInt8} {n : Nat} {over : Bool} (h : FdS t base F w p K n over) (g : Grew w w') : FdP t base F p K n over w w' :=
  ⟨F, h.grew g, Fr.of_grew g, fun _ hk => .inl hk⟩
/-- then a call that leaves the feeder as it is, and turns new blocks alone -/
theorem FdP.post {t : TypeId} {base : Nat} {F : Nat → Prop} {w w1 w' : World} {p : Nat} {K : List UInt8} {n : Nat} {over : Bool} (h : FdP t base F p K n over w w1) (g : Grew w1 w') : FdP t base F p K n over w w' := by
  obtain ⟨F', h1, h2, h3⟩ := h
  exact ⟨F', h1.grew g, h2.trans (Fr.of_grew g), h3⟩
theorem FdP.pre {t : TypeId} {base : Nat} {F : Nat → Prop} {w w1 w' : World} {p : Nat} {K : List UInt8} {n : Nat} {over : Bool} (g : Grew w w1) (h : FdP t base F p K n over w1 w') : FdP t base F p K n over w w' := by
  obtain ⟨F', h1, h2, h3⟩ := h
  refine ⟨F', h1, (Fr.of_grew g).trans h2, fun k hk => ?_⟩
  rcases h3 k hk with h | h
  · exact .inl h
  · exact .inr (Nat.le_trans g.size h)
theorem cells3 {w : World} {b : Nat} {t : TypeId} {x y z : Value} (h : Blk w b t #[x, y, z]) : w.cell? ⟨b, 0, none⟩ = some x ∧ w.cell? ⟨b, 1, none⟩ = some y ∧ w.cell? ⟨b, 2, none⟩ = some z ∧ w.frozen? ⟨b, 0, none⟩ = false ∧ w.frozen? ⟨b, 1, none⟩ = false ∧ w.frozen? ⟨b, 2, none⟩ = false := by
  refine ⟨?_, ?_, ?_, h.frozen 0, h.frozen 1, h.frozen 2⟩
  · have := h.cell 0; simpa using this
  · have := h.cell 1; simpa using this
  · have := h.cell 2; simpa using this
theorem ownB_shape {w : World} {base : Nat} {v : Value} {l : List UInt8} (h : OwnB w base v l) : ∃ a c, v = .slice a l.length c ∧ l.length ≤ c ∧ c ≤ 9223372036854775807 := by
  obtain ⟨a, c, e, h1, h2, _⟩ := (Sl.of_own h).open
  unfold maxLen at h2
  exact ⟨a, c, e, h1, by omega⟩

theorem fnew_any (w : World) : Calls Try.prog 34 #[] w fun e w' => e = .returned (.pointer (some ⟨w.heap.size, 0, none⟩)) ∧ FdS 80 w.heap.size (· = w.heap.size) w' w.heap.size [] 0 false ∧ Grew w w' := by
  go_enter Try.func34, Try.ntmps34
  go_wp2
  go_ret
  exact ⟨rfl, ⟨_, Blk.new _ _ _, ownB_nil _ _, Nat.le_refl _, fun k => by simp [Value.ownBlock]⟩, grew_alloc _ _⟩
theorem fshut_any (base : Nat) (F : Nat → Prop) (p : Nat) (K : List UInt8) (n : Nat) (over : Bool) (w : World) (h : FdS 80 base F w p K n over) :
    Calls Try.prog 44 #[.pointer (some ⟨p, 0, none⟩)] w fun e w' => e = .returned (.bool over) ∧ w = w' := by
  obtain ⟨v, h1, -, -, -⟩ := h
  obtain ⟨-, -, x2, -, -, -⟩ := cells3 h1
  clear h1
  go_enter Try.func44, Try.ntmps44
  go_wp2
  go_ret
  exact ⟨rfl, rfl⟩
theorem fshut_nil (w : World) : Calls Try.prog 44 #[.pointer none] w fun e w' => e = .returned (.bool true) ∧ w = w' := by
  go_enter Try.func44, Try.ntmps44
  go_wp2
  go_ret
  exact ⟨rfl, rfl⟩
theorem fadd_any (base : Nat) (F : Nat → Prop) (p : Nat) (K m : List UInt8) (n : Nat) (over : Bool) (x : Value) (w : World) (h : FdS 80 base F w p K n over) (hx : Bs w x m) (hl : K.length + m.length ≤ 1000000000) :
    Calls Try.prog 45 #[.pointer (some ⟨p, 0, none⟩), x] w fun e w' => (∃ u, e = .returned u) ∧ FdP 80 base F p (K ++ m) n over w w' := by
  obtain ⟨v, h1, h2, h3, h4⟩ := id h
  obtain ⟨a, c, rfl, -, -⟩ := ownB_shape h2
  obtain ⟨ax, cx, rfl⟩ := bs_len hx
  have hne : some p ≠ (Value.slice a K.length c).ownBlock := blk_ne_row h1 h2 (by decide)
  have HN := Lib.hid hne
  have H4 := Lib.hid h4
  have H2 := Lib.hid h2
  have HX := Lib.hid hx
  obtain ⟨x0, x1, x2, y0, y1, y2⟩ := cells3 h1
  clear h2 hne h4 hx h
  go_enter Try.func45, Try.ntmps45
  go_wp2_with (at_builtin; refine wpList_pushAt rfl _ _ rfl base _ K rfl H2.out _ rfl m HX.out (by omega) (by have := h1.lt; omega) ?_; intro v' w2 hown2 hB2 hgb0 hat; have hgb : w.grownBy w2 (Value.slice a K.length c).ownBlock := hgb0; clear hgb0; obtain ⟨a', c', hv', -, -⟩ := ownB_shape hown2; rw [List.length_append] at hv'; subst hv'; have hb2 := h1.kept hgb HN.out; obtain ⟨q0, -, -, f0, -, -⟩ := cells3 hb2)
  go_end0
  have hg := Fr.of_grown (S := F) hgb (fun k hk => (H4.out k).2 (.inr hk))
  have hne2 : (Value.slice a' (K.length + m.length) c').ownBlock ≠ some p := fun e' => blk_ne_row hb2 hown2 (by decide) e'.symm
  refine ⟨⟨_, rfl⟩, fun k => k = p ∨ (Value.slice a' (K.length + m.length) c').ownBlock = some k, ⟨_, hb2.set 0 _, own_set hown2 _ _ hne2, h3, fun k => Iff.rfl⟩, hg.set p 0 _ (fun _ => (H4.out p).2 (.inl rfl)), ?_⟩
  have hat' : (Value.slice a' (K.length + m.length) c').ownBlock = (Value.slice a K.length c).ownBlock ∨ (Value.slice a' (K.length + m.length) c').ownBlock = some w.heap.size := hat
  rintro k (rfl | hk)
  · exact .inl ((H4.out k).2 (.inl rfl))
  · rcases hat' with hat | hat
    · exact .inl ((H4.out k).2 (.inr (by rw [← hat]; exact hk)))
    · rw [hat] at hk
      cases hk
      right; exact Nat.le_refl _
end Go.Proofs.Ytoinndlialimcaa
