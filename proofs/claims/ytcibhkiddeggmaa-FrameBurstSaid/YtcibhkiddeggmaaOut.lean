/- Package outlet and rescriptref05: contracts. -/
import Derived.Test.YtcibhkiddeggmaaFix
import Derived.Test.YtcibhkiddeggmaaSlc
import Derived.Deep.RegionHeld3
import Derived.Deep.AppendLies
namespace Go.Proofs.Ytcibhkiddeggmaa
open Go Go.RowKit Go.Shelf
attribute [local go_sem] Oper.semAt_some

/-- append of bytes to a row of the call's own; where the new row lies -/
theorem wpList_push2 {W : World} {ops : Array Oper} {rest : List Oper} {o : Oper} {a : Act} {Q : Exit → Act → World → Prop} (hgd : o.guard = none) (s x : Operand)
    (ho : o.op = .call { callee := .builtin .append, args := #[s, x], argTypes := #[22, 22] })
    (base : Nat) (v : Value) (l : List UInt8) (hs : a.eval s = v) (hown : OwnB W base v l) (xv : Value) (hx : a.eval x = xv) (m : List UInt8) (hsl : Bs W xv m)
    (hlen : l.length + m.length ≤ 140737488355328) (hbase : base ≤ W.heap.size)
    (h : ∀ v' w', OwnB w' base v' (l ++ m) → Below base W w' → W.grownBy w' v.ownBlock → (v'.ownBlock = v.ownBlock ∨ v'.ownBlock = some W.heap.size) → wpList Try.prog ops Q rest (a.put o.dst v') w') : wpList Try.prog ops Q (o :: rest) a W := by
  obtain ⟨i0, hi, hz0, hz1, hz2⟩ := info_parts info_u8
  rcases hsl.shape with ⟨rfl, h0, h1⟩ | ⟨ad, cap, rfl, _, _, hl, hc⟩
  · obtain rfl : m = [] := List.eq_nil_of_length_eq_zero h0
    exact wpList_append_own_none hgd s x 22 ho base 5 i0 1 Try.underlying22 hi v _ _ hs hown hx (by simpa using h v W (by simpa using hown) (Below.refl _ _) (World.grownBy.refl _ _) (.inl rfl))
  · refine wpList_plain hgd fun K hK => ?_
    obtain ⟨v', w', hr, h2, h3, _, h5⟩ := run_append_own_at (P := Try.prog) W base 22 o.type 5 i0 (.int .u8 0) 1 1 Try.underlying22 hi hz0 hz1 hz2 rfl (by decide) v l.length (bv l) hown ad m.length cap (bv m) hl hc (bv_one m) (by unfold maxLen; omega) (by omega) hbase
    unfold Oper.wp execOp
    simp only [ho, resolve, invoke, builtin, Sem.run_bind, Sem.run_pure, Result.andThen_ok, List.map_toArray, List.map_cons, List.map_nil, hs, hx, hr]
    exact hK _ _ (h v' w' (by rw [OwnB, bv_append, List.length_append]; exact h2) (grownBy_below h3 hown hbase) h3 h5)

/-- block p is a writer: what was written, and how much there may be; F: the blocks that are its own -/
def OutS (t : TypeId) (base : Nat) (F : Nat → Prop) (w : World) (p : Nat) (b : List UInt8) (m : Nat) : Prop :=
  ∃ v, Blk w p t #[v, .int .i64 m] ∧ OwnB w base v b ∧ b.length ≤ m ∧ m ≤ 16777216 ∧ base ≤ p ∧ ∀ k, F k ↔ (k = p ∨ v.ownBlock = some k)
theorem OutS.grew {t : TypeId} {base : Nat} {F : Nat → Prop} {w w' : World} {p : Nat} {b : List UInt8} {m : Nat} (h : OutS t base F w p b m) (g : Grew w w') : OutS t base F w' p b m := by
  obtain ⟨v, h1, h2, h3, h4, h5, h6⟩ := h
  exact ⟨v, h1.grew g, own_grew h2 g, h3, h4, h5, h6⟩
theorem OutS.fr {t : TypeId} {base : Nat} {F G : Nat → Prop} {w w' : World} {p : Nat} {b : List UInt8} {m : Nat} (h : OutS t base F w p b m) (hf : Fr G w w') (hd : ∀ k, F k → ¬ G k) : OutS t base F w' p b m := by
  obtain ⟨v, h1, h2, h3, h4, h5, h6⟩ := h
  exact ⟨v, h1.fr hf (hd p ((h6 p).2 (.inl rfl))), own_fr h2 hf (fun g hg => hd g ((h6 g).2 (.inr hg))), h3, h4, h5, h6⟩
theorem OutS.own {t : TypeId} {base : Nat} {F : Nat → Prop} {w : World} {p : Nat} {b : List UInt8} {m : Nat} (h : OutS t base F w p b m) : ∀ k, F k → base ≤ k ∧ k < w.heap.size := by
  obtain ⟨v, h1, h2, h3, h4, h5, h6⟩ := h
  intro k hk
  rcases (h6 k).1 hk with rfl | hk
  · exact ⟨h5, h1.lt⟩
  · exact own_lt h2 k hk
/-- what a call on a writer leaves -/
def OutP (t : TypeId) (base : Nat) (F : Nat → Prop) (p : Nat) (b : List UInt8) (m : Nat) (w w' : World) : Prop :=
  ∃ F', OutS t base F' w' p b m ∧ Fr F w w' ∧ ∀ k, F' k → F k ∨ w.heap.size ≤ k
theorem OutP.mk_grew {t : TypeId} {base : Nat} {F : Nat → Prop} {w w' : World} {p : Nat} {b : List UInt8} {m : Nat} (h : OutS t base F w p b m) (g : Grew w w') : OutP t base F p b m w w' :=
  ⟨F, h.grew g, Fr.of_grew g, fun _ hk => .inl hk⟩
theorem OutP.pre {t : TypeId} {base : Nat} {F : Nat → Prop} {w w1 w' : World} {p : Nat} {b : List UInt8} {m : Nat} (g : Grew w w1) (h : OutP t base F p b m w1 w') : OutP t base F p b m w w' := by
  obtain ⟨F', h1, h2, h3⟩ := h
  refine ⟨F', h1, (Fr.of_grew g).trans h2, fun k hk => ?_⟩
  rcases h3 k hk with h | h
  · exact .inl h
  · exact .inr (Nat.le_trans g.size h)
theorem OutP.post {t : TypeId} {base : Nat} {F : Nat → Prop} {w w1 w' : World} {p : Nat} {b : List UInt8} {m : Nat} (h : OutP t base F p b m w w1) (g : Grew w1 w') : OutP t base F p b m w w' := by
  obtain ⟨F', h1, h2, h3⟩ := h
  exact ⟨F', h1.grew g, h2.trans (Fr.of_grew g), h3⟩
abbrev OutO (base : Nat) (F : Nat → Prop) (w : World) (p : Nat) (b : List UInt8) (m : Nat) : Prop := OutS 131 base F w p b m
theorem cells_of' {w : World} {b : Nat} {t : TypeId} {x y : Value} (h : Blk w b t #[x, y]) : w.cell? ⟨b, 0, none⟩ = some x ∧ w.cell? ⟨b, 1, none⟩ = some y ∧ w.frozen? ⟨b, 0, none⟩ = false ∧ w.frozen? ⟨b, 1, none⟩ = false := by
  have c0 := h.cell 0
  have c1 := h.cell 1
  simp only [List.getElem?_toArray, List.getElem?_cons_zero, List.getElem?_cons_succ] at c0 c1
  exact ⟨c0, c1, h.frozen 0, h.frozen 1⟩

theorem oleft_any (base : Nat) (F : Nat → Prop) (b : List UInt8) (p m : Nat) (w : World) (h : OutO base F w p b m) : Calls Try.prog 104 #[.pointer (some ⟨p, 0, none⟩)] w fun e w' => e = .returned (.int .i64 (m - b.length : Nat)) ∧ Drew w w' := by
  obtain ⟨v, h1, h2, h3, h4, h5, h6⟩ := h
  obtain ⟨a, c, rfl⟩ := bs_len (Sl.of_own h2)
  obtain ⟨c0, c1, -, -⟩ := cells_of' h1
  have e : ((m - b.length : Nat) : Int) = (m : Int) - (b.length : Int) := by omega
  have e2 : IntKind.i64.wrap ((m : Int) - (b.length : Int)) = (m : Int) - (b.length : Int) := IntWalk.i64_in _ (by omega)
  rw [e]
  clear e h1 h2 h6
  go_enter Try.func104, Try.ntmps104
  go_wp2
  go_quiet (fail)
  go_wp2
  go_ret
  exact ⟨rfl, _, rfl⟩
theorem oleft_nil (w : World) : Calls Try.prog 104 #[.pointer none] w fun e w' => e = .returned (.int .i64 0) ∧ w = w' := by
  go_enter Try.func104, Try.ntmps104
  go_wp2
  go_ret
  exact ⟨rfl, rfl⟩
theorem oout_any (base : Nat) (F : Nat → Prop) (b : List UInt8) (p m : Nat) (w : World) (h : OutO base F w p b m) : Calls Try.prog 66 #[.pointer (some ⟨p, 0, none⟩)] w fun e w' => ∃ v, e = .returned v ∧ OwnB w' w.heap.size v b ∧ Grew w w' := by
  obtain ⟨v, h1, h2, h3, h4, h5, h6⟩ := h
  have hs := Sl.of_own h2
  obtain ⟨a, c, rfl⟩ := bs_len hs
  obtain ⟨c0, c1, -, -⟩ := cells_of' h1
  clear h1 h2 h6
  go_enter Try.func66, Try.ntmps66
  go_wp2_with fail
  refine (clone_any b _ _ hs (by omega)).mono ?_
  rintro e1 w1 ⟨v1, rfl, o1, g1⟩
  go_wp2
  go_ret
  exact ⟨_, rfl, o1, g1⟩
theorem oout_nil (w : World) : Calls Try.prog 66 #[.pointer none] w fun e w' => e = .returned (.slice none 0 0) ∧ w = w' := by
  go_enter Try.func66, Try.ntmps66
  go_wp2
  go_ret
  exact ⟨rfl, rfl⟩

def clampM (most : Int) : Nat := if most < 0 then 0 else if 16777216 < most then 16777216 else most.toNat
theorem onew_any (most : Int) (w : World) : Calls Try.prog 60 #[.int .i64 most] w fun e w' => e = .returned (.pointer (some ⟨w.heap.size, 0, none⟩)) ∧ OutO w.heap.size (· = w.heap.size) w' w.heap.size [] (clampM most) ∧ Grew w w' := by
  by_cases h1 : most < 0
  · have e : clampM most = 0 := by unfold clampM; rw [if_pos h1]
    have hle : most ≤ 0 := by omega
    rw [e]
    clear e
    go_enter Try.func60, Try.ntmps60
    go_wp2
    go_ret
    exact ⟨rfl, ⟨_, Blk.new _ _ _, ownB_nil _ _, by simp, by omega, Nat.le_refl _, fun k => by simp [Value.ownBlock]⟩, grew_alloc _ _⟩
  obtain ⟨m, rfl⟩ := Int.eq_ofNat_of_zero_le (by omega : 0 ≤ most)
  by_cases h2 : 16777216 < m
  · have e : clampM m = 16777216 := by unfold clampM; rw [if_neg (by omega), if_pos (by omega)]
    rw [e]
    clear e h1
    go_enter Try.func60, Try.ntmps60
    go_wp2
    go_ret
    exact ⟨rfl, ⟨_, Blk.new _ _ _, ownB_nil _ _, by simp, by omega, Nat.le_refl _, fun k => by simp [Value.ownBlock]⟩, grew_alloc _ _⟩
  · have e : clampM m = m := by unfold clampM; rw [if_neg (by omega), if_neg (by omega)]; simp
    have hle : m ≤ 16777216 := by omega
    rw [e]
    clear e h1 h2
    go_enter Try.func60, Try.ntmps60
    go_wp2
    go_ret
    exact ⟨rfl, ⟨_, Blk.new _ _ _, ownB_nil _ _, by simp, hle, Nat.le_refl _, fun k => by simp [Value.ownBlock]⟩, grew_alloc _ _⟩

/-- bytes more, if there is room: what there is then, and the error -/
def putR (b l : List UInt8) (m : Nat) : List UInt8 × Nat := if m < b.length + l.length then (b, 14) else (b ++ l, 0)
theorem putR_le (b l : List UInt8) (m : Nat) (h : b.length ≤ m) : (putR b l m).1.length ≤ m := by
  unfold putR; split
  · exact h
  · simp; omega
set_option maxHeartbeats 1000000 in
theorem raw_any (base : Nat) (F : Nat → Prop) (b l : List UInt8) (p m : Nat) (x : Value) (w : World) (h : OutO base F w p b m) (hx : Bs w x l) (_hl : l.length ≤ 100000000) :
    Calls Try.prog 85 #[.pointer (some ⟨p, 0, none⟩), x] w fun e w' => e = .returned (.int .i64 (putR b l m).2) ∧ OutP 131 base F p (putR b l m).1 m w w' := by
  obtain ⟨v, h1, h2, h3, h4, h5, h6⟩ := id h
  obtain ⟨a, c, rfl⟩ := bs_len (Sl.of_own h2)
  obtain ⟨ax, cx, rfl⟩ := bs_len hx
  by_cases hfit : m < b.length + l.length
  · have hd : decide (((m - b.length : Nat) : Int) < (l.length : Int)) = true := by simp; omega
    have hd2 : decide (m - b.length < l.length) = true := by simp; omega
    unfold putR
    rw [if_pos hfit]
    clear h1 h2 h6 hfit
    go_enter Try.func85, Try.ntmps85
    go_wp2_with fail
    refine (oleft_any base F b p m _ h).mono ?_
    rintro e1 w1 ⟨rfl, nd, rfl⟩
    go_wp2
    go_ret
    exact ⟨rfl, OutP.mk_grew h (Drew.grew ⟨_, rfl⟩)⟩
  · have hd : decide (((m - b.length : Nat) : Int) < (l.length : Int)) = false := by simp; omega
    have hd2 : decide (m - b.length < l.length) = false := by simp; omega
    unfold putR
    rw [if_neg hfit]
    have hne : some p ≠ (Value.slice a b.length c).ownBlock := blk_ne_row h1 h2 (by decide)
    have HN := Lib.hid hne
    have H6 := Lib.hid h6
    have hfit' : b.length + l.length ≤ m := by omega
    clear hfit hne h6
    go_enter Try.func85, Try.ntmps85
    go_wp2_with fail
    refine (oleft_any base F b p m _ h).mono ?_
    rintro e1 w1 ⟨rfl, nd, rfl⟩
    have hb1 := h1.drewN nd
    have ho1 := own_grew h2 (Drew.grew (⟨nd, rfl⟩ : Drew w (w.drewN nd)))
    obtain ⟨c0, c1, -, -⟩ := cells_of' hb1
    go_wp2_with (at_builtin; refine wpList_push2 rfl _ _ rfl base _ b rfl ho1 _ rfl l (hx.drew nd) (by omega) (by have := (own_lt ho1); have := hb1.lt; omega) ?_; intro v' w2 hown2 hB2 hgb0 hat; have hgb : (w.drewN nd).grownBy w2 (Value.slice a b.length c).ownBlock := hgb0; clear hgb0; obtain ⟨a', c', hv'⟩ := bs_len (Sl.of_own hown2); rw [List.length_append] at hv'; subst hv'; have hb2 := hb1.kept hgb HN.out; have f0 := hb2.frozen 0; have q0 := hb2.cell 0; simp only [List.getElem?_toArray, List.getElem?_cons_zero] at q0)
    go_ret
    have hg := (Fr.of_grew (S := F) (Drew.grew (⟨nd, rfl⟩ : Drew w (w.drewN nd)))).trans (Fr.of_grown hgb (fun k hk => (H6.out k).2 (.inr hk)))
    have hne2 : (Value.slice a' (b.length + l.length) c').ownBlock ≠ some p := fun e' => blk_ne_row hb2 hown2 (by decide) e'.symm
    refine ⟨rfl, fun k => k = p ∨ (Value.slice a' (b.length + l.length) c').ownBlock = some k, ⟨_, hb2.set 0 _, own_set hown2 _ _ hne2, by rw [List.length_append]; omega, h4, h5, fun k => Iff.rfl⟩, hg.set p 0 _ (fun _ => (H6.out p).2 (.inl rfl)), ?_⟩
    have hat' : (Value.slice a' (b.length + l.length) c').ownBlock = (Value.slice a b.length c).ownBlock ∨ (Value.slice a' (b.length + l.length) c').ownBlock = some (w.drewN nd).heap.size := hat
    rintro k (rfl | hk)
    · exact .inl ((H6.out k).2 (.inl rfl))
    · rcases hat' with hat | hat
      · exact .inl ((H6.out k).2 (.inr (by rw [← hat]; exact hk)))
      · rw [hat] at hk
        cases hk
        right; simp
theorem raw_nil (w : World) (x : Value) : Calls Try.prog 85 #[.pointer none, x] w fun e w' => e = .returned (.int .i64 14) ∧ w = w' := by
  go_enter Try.func85, Try.ntmps85
  go_wp2
  go_ret
  exact ⟨rfl, rfl⟩

theorem ovarint_any (base : Nat) (F : Nat → Prop) (b : List UInt8) (p m n : Nat) (hn : n < 18446744073709551616) (w : World) (h : OutO base F w p b m) :
    Calls Try.prog 62 #[.pointer (some ⟨p, 0, none⟩), .int .u64 n] w fun e w' => e = .returned (.int .i64 (putR b (vput n) m).2) ∧ OutP 131 base F p (putR b (vput n) m).1 m w w' := by
  have hl := vput_len10 n hn
  go_enter Try.func62, Try.ntmps62
  go_wp2_with fail
  refine (put_any n hn _).mono ?_
  rintro e1 w1 ⟨v1, rfl, o1, g1⟩
  have s1 := Sl.of_own o1
  obtain ⟨a1, c1, rfl⟩ := bs_len s1
  go_wp2_with fail
  refine (raw_any base F b (vput n) p m _ _ (h.grew g1) s1 (by omega)).mono ?_
  rintro e2 w2 ⟨rfl, h2⟩
  have H2 := Lib.hid h2
  clear h2
  go_wp2
  go_ret
  exact ⟨rfl, H2.out.pre g1⟩
theorem ofour_any (base : Nat) (F : Nat → Prop) (b : List UInt8) (p m n : Nat) (hn : n < 4294967296) (w : World) (h : OutO base F w p b m) :
    Calls Try.prog 64 #[.pointer (some ⟨p, 0, none⟩), .int .u32 n] w fun e w' => e = .returned (.int .i64 (putR b (fixB 4 n) m).2) ∧ OutP 131 base F p (putR b (fixB 4 n) m).1 m w w' := by
  have hl := fixB_length 4 n
  have HL := Lib.hid hl
  clear hl
  go_enter Try.func64, Try.ntmps64
  go_wp2_with fail
  refine (fix32_any n hn _).mono ?_
  rintro e1 w1 ⟨v1, rfl, o1, g1⟩
  have s1 := Sl.of_own o1
  obtain ⟨a1, c1, rfl⟩ := bs_len s1
  go_wp2_with fail
  refine (raw_any base F b (fixB 4 n) p m _ _ (h.grew g1) s1 (by rw [HL.out]; omega)).mono ?_
  rintro e2 w2 ⟨rfl, h2⟩
  have H2 := Lib.hid h2
  clear h2
  go_wp2
  go_ret
  exact ⟨rfl, H2.out.pre g1⟩
theorem oeight_any (base : Nat) (F : Nat → Prop) (b : List UInt8) (p m n : Nat) (hn : n < 18446744073709551616) (w : World) (h : OutO base F w p b m) :
    Calls Try.prog 63 #[.pointer (some ⟨p, 0, none⟩), .int .u64 n] w fun e w' => e = .returned (.int .i64 (putR b (fixB 8 n) m).2) ∧ OutP 131 base F p (putR b (fixB 8 n) m).1 m w w' := by
  have hl := fixB_length 8 n
  have HL := Lib.hid hl
  clear hl
  go_enter Try.func63, Try.ntmps63
  go_wp2_with fail
  refine (fix64_any n hn _).mono ?_
  rintro e1 w1 ⟨v1, rfl, o1, g1⟩
  have s1 := Sl.of_own o1
  obtain ⟨a1, c1, rfl⟩ := bs_len s1
  go_wp2_with fail
  refine (raw_any base F b (fixB 8 n) p m _ _ (h.grew g1) s1 (by rw [HL.out]; omega)).mono ?_
  rintro e2 w2 ⟨rfl, h2⟩
  have H2 := Lib.hid h2
  clear h2
  go_wp2
  go_ret
  exact ⟨rfl, H2.out.pre g1⟩

/-- a tag that is written: what there is then, and the error -/
def tagP (b : List UInt8) (num : Int) (wire m : Nat) : List UInt8 × Nat := if (tmake num wire).2 ≠ 0 then (b, (tmake num wire).2) else putR b (vput (tmake num wire).1) m
theorem otag_any (base : Nat) (F : Nat → Prop) (b : List UInt8) (p m : Nat) (num : Int) (wire : Nat) (h1 : -9223372036854775808 ≤ num) (h2 : num ≤ 9223372036854775807) (hw : wire < 256) (w : World) (h : OutO base F w p b m) :
    Calls Try.prog 61 #[.pointer (some ⟨p, 0, none⟩), .int .i64 num, .int .u8 wire] w fun e w' => e = .returned (.int .i64 (tagP b num wire m).2) ∧ OutP 131 base F p (tagP b num wire m).1 m w w' := by
  have hlt := tmake_lt num wire hw
  have K := fun w => make_any num wire h1 h2 hw w
  unfold tagP
  obtain ⟨⟨n, e⟩, hR⟩ : ∃ R, tmake num wire = R := ⟨_, rfl⟩
  simp only [hR] at K hlt ⊢
  have KG := Lib.hid K
  clear hR K
  by_cases he : e = 0
  · subst he
    rw [if_neg (by simp)]
    go_enter Try.func61, Try.ntmps61
    go_wp2_with fail
    refine (KG.out _).mono ?_
    rintro e1 w1 ⟨rfl, rfl⟩
    go_wp2_with fail
    refine (ovarint_any base F b p m n (by omega) _ h).mono ?_
    rintro e2 w2 ⟨rfl, h2⟩
    have H2 := Lib.hid h2
    clear h2
    go_wp2
    go_ret
    exact ⟨rfl, H2.out⟩
  · rw [if_pos he]
    have hne : ((e : Int) != 0) = true := by simp; omega
    clear he
    go_enter Try.func61, Try.ntmps61
    go_wp2_with fail
    refine (KG.out _).mono ?_
    rintro e1 w1 ⟨rfl, rfl⟩
    go_wp2
    go_ret
    exact ⟨rfl, OutP.mk_grew h (Below.refl _ _)⟩
end Go.Proofs.Ytcibhkiddeggmaa
