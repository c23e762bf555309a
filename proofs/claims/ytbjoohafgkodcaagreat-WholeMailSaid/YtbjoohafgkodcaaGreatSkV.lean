/- skip.Put: contract. ; skip.put, rescriptref06.Bytes: contracts. ; Package outlet: All and Bytes: contracts. ; Contract of rescriptref05.Bytes. ; Package outlet and rescriptref05: contracts. -/
import Derived.Test.YtbjoohafgkodcaaGreatFix
import Derived.Deep.RegionHeld3
import Derived.Deep.AppendLies
import Derived.Test.YtbjoohafgkodcaaGreatSkB
import Derived.Test.YtbjoohafgkodcaaGreatFld
namespace Go.Proofs.YtbjoohafgkodcaaGreat
open Go Go.RowKit Go.Shelf
attribute [local go_sem] Oper.semAt_some

/-- append of bytes to a row of the call's own; where the new row lies -/
theorem wpList_push2 {W : World} {ops : Array Oper} {rest : List Oper} {o : Oper} {a : Act} {Q : Exit → Act → World → Prop} (hgd : o.guard = none) (s x : Operand)
    (ho : o.op = .call { callee := .builtin .append, args := #[s, x], argTypes := #[22, 22] })
    (base : Nat) (v : Value) (l : List UInt8) (hs : a.eval s = v) (hown : OwnB W base v l) (xv : Value) (hx : a.eval x = xv) (m : List UInt8) (hsl : Bs W xv m)
    (hlen : l.length + m.length ≤ 140737488355328) (hbase : base ≤ W.heap.size)
    (h : ∀ v' w', OwnB w' base v' (l ++ m) → Below base W w' → W.grownBy w' v.ownBlock → (v'.ownBlock = v.ownBlock ∨ v'.ownBlock = some W.heap.size) → wpList Tryz.prog ops Q rest (a.put o.dst v') w') : wpList Tryz.prog ops Q (o :: rest) a W := by
  obtain ⟨i0, hi, hz0, hz1, hz2⟩ := info_parts info_u8
  rcases hsl.shape with ⟨rfl, h0, h1⟩ | ⟨ad, cap, rfl, _, _, hl, hc⟩
  · obtain rfl : m = [] := List.eq_nil_of_length_eq_zero h0
    exact wpList_append_own_none hgd s x 22 ho base 5 i0 1 Tryz.underlying22 hi v _ _ hs hown hx (by simpa using h v W (by simpa using hown) (Below.refl _ _) (World.grownBy.refl _ _) (.inl rfl))
  · refine wpList_plain hgd fun K hK => ?_
    obtain ⟨v', w', hr, h2, h3, _, h5⟩ := run_append_own_at (P := Tryz.prog) W base 22 o.type 5 i0 (.int .u8 0) 1 1 Tryz.underlying22 hi hz0 hz1 hz2 rfl (by decide) v l.length (bv l) hown ad m.length cap (bv m) hl hc (bv_one m) (by unfold maxLen; omega) (by omega) hbase
    unfold Oper.wp execOp
    simp only [ho, resolve, invoke, builtin, Sem.run_bind, Sem.run_pure, Result.andThen_ok, List.map_toArray, List.map_cons, List.map_nil, hs, hx, hr]
    exact hK _ _ (h v' w' (by rw [OwnB, bv_append, List.length_append]; exact h2) (grownBy_below h3 hown hbase) h3 h5)

/-- block p is a writer: what was written, and how much there may be; F: the blocks that are its own -/
def OutS (t : TypeId) (base : Nat) (F : Nat → Prop) (w : World) (p : Nat) (b : List UInt8) (m : Nat) : Prop :=
  ∃ v, Blk w p t #[v, .int .i64 m] ∧ OwnB w base v b ∧ b.length ≤ m ∧ m ≤ 16777216 ∧ base ≤ p ∧ ∀ k, F k ↔ (k = p ∨ v.ownBlock = some k)
theorem OutS.grew {t : TypeId} {base : Nat} {F : Nat → Prop} {w w' : World} {p : Nat} {b : List UInt8} {m : Nat} (h : OutS t base F w p b m) (g : Grew w w') : OutS t base F w' p b m := by
  obtain ⟨v, h1, h2, h3, h4, h5, h6⟩ := h
  exact ⟨v, h1.grew g, own_grew h2 g, h3, h4, h5, h6⟩
theorem OutS.fr {t : TypeId} {base : Nat} {F G : Nat → Prop} {w w' : World} {p : Nat} {b : List UInt8} {m : Nat} (h : OutS t base F w p b m) (hf : Fr G w w') (hd : ∀ k, F k → ¬ G k) : OutS t base F w' p b m := by
  obtain ⟨v, h1, h2, h3, h4, h5, h6⟩ := h
  exact ⟨v, h1.fr hf (hd p ((h6 p).2 (.inl rfl))), own_fr h2 hf (fun g hg => hd g ((h6 g).2 (.inr hg))), h3, h4, h5, h6⟩
theorem OutS.own {t : TypeId} {base : Nat} {F : Nat → Prop} {w : World} {p : Nat} {b : List UInt8} {m : Nat} (h : OutS t base F w p b m) : ∀ k, F k → base ≤ k ∧ k < w.heap.size := by
  obtain ⟨v, h1, h2, h3, h4, h5, h6⟩ := h
  intro k hk
  rcases (h6 k).1 hk with rfl | hk
  · exact ⟨h5, h1.lt⟩
  · exact own_lt h2 k hk
/-- what a call on a writer leaves -/
def OutP (t : TypeId) (base : Nat) (F : Nat → Prop) (p : Nat) (b : List UInt8) (m : Nat) (w w' : World) : Prop :=
  ∃ F', OutS t base F' w' p b m ∧ Fr F w w' ∧ ∀ k, F' k → F k ∨ w.heap.size ≤ k
theorem OutP.mk_grew {t : TypeId} {base : Nat} {F : Nat → Prop} {w w' : World} {p : Nat} {b : List UInt8} {m : Nat} (h : OutS t base F w p b m) (g : Grew w w') : OutP t base F p b m w w' :=
  ⟨F, h.grew g, Fr.of_grew g, fun _ hk => .inl hk⟩
theorem OutP.pre {t : TypeId} {base : Nat} {F : Nat → Prop} {w w1 w' : World} {p : Nat} {b : List UInt8} {m : Nat} (g : Grew w w1) (h : OutP t base F p b m w1 w') : OutP t base F p b m w w' := by
  obtain ⟨F', h1, h2, h3⟩ := h
  refine ⟨F', h1, (Fr.of_grew g).trans h2, fun k hk => ?_⟩
  rcases h3 k hk with h | h
  · exact .inl h
  · exact .inr (Nat.le_trans g.size h)
theorem OutP.post {t : TypeId} {base : Nat} {F : Nat → Prop} {w w1 w' : World} {p : Nat} {b : List UInt8} {m : Nat} (h : OutP t base F p b m w w1) (g : Grew w1 w') : OutP t base F p b m w w' := by
  obtain ⟨F', h1, h2, h3⟩ := h
  exact ⟨F', h1.grew g, h2.trans (Fr.of_grew g), h3⟩
abbrev OutO (base : Nat) (F : Nat → Prop) (w : World) (p : Nat) (b : List UInt8) (m : Nat) : Prop := OutS 223 base F w p b m
theorem cells_of' {w : World} {b : Nat} {t : TypeId} {x y : Value} (h : Blk w b t #[x, y]) : w.cell? ⟨b, 0, none⟩ = some x ∧ w.cell? ⟨b, 1, none⟩ = some y ∧ w.frozen? ⟨b, 0, none⟩ = false ∧ w.frozen? ⟨b, 1, none⟩ = false := by
  have c0 := h.cell 0
  have c1 := h.cell 1
  simp only [List.getElem?_toArray, List.getElem?_cons_zero, List.getElem?_cons_succ] at c0 c1
  exact ⟨c0, c1, h.frozen 0, h.frozen 1⟩

theorem oleft_any (base : Nat) (F : Nat → Prop) (b : List UInt8) (p m : Nat) (w : World) (h : OutO base F w p b m) : Calls Tryz.prog 173 #[.pointer (some ⟨p, 0, none⟩)] w fun e w' => e = .returned (.int .i64 (m - b.length : Nat)) ∧ Drew w w' := by
  obtain ⟨v, h1, h2, h3, h4, h5, h6⟩ := h
  obtain ⟨a, c, rfl⟩ := bs_len (Sl.of_own h2)
  obtain ⟨c0, c1, -, -⟩ := cells_of' h1
  have e : ((m - b.length : Nat) : Int) = (m : Int) - (b.length : Int) := by omega
  have e2 : IntKind.i64.wrap ((m : Int) - (b.length : Int)) = (m : Int) - (b.length : Int) := IntWalk.i64_in _ (by omega)
  rw [e]
  clear e h1 h2 h6
  go_enter Tryz.func173, Tryz.ntmps173
  go_wp2
  go_quiet (fail)
  go_wp2
  go_ret
  exact ⟨rfl, _, rfl⟩
theorem oleft_nil (w : World) : Calls Tryz.prog 173 #[.pointer none] w fun e w' => e = .returned (.int .i64 0) ∧ w = w' := by
  go_enter Tryz.func173, Tryz.ntmps173
  go_wp2
  go_ret
  exact ⟨rfl, rfl⟩
theorem oout_any (base : Nat) (F : Nat → Prop) (b : List UInt8) (p m : Nat) (w : World) (h : OutO base F w p b m) : Calls Tryz.prog 153 #[.pointer (some ⟨p, 0, none⟩)] w fun e w' => ∃ v, e = .returned v ∧ OwnB w' w.heap.size v b ∧ Grew w w' := by
  obtain ⟨v, h1, h2, h3, h4, h5, h6⟩ := h
  have hs := Sl.of_own h2
  obtain ⟨a, c, rfl⟩ := bs_len hs
  obtain ⟨c0, c1, -, -⟩ := cells_of' h1
  clear h1 h2 h6
  go_enter Tryz.func153, Tryz.ntmps153
  go_wp2_with fail
  refine (clone_any b _ _ hs (by omega)).mono ?_
  rintro e1 w1 ⟨v1, rfl, o1, g1⟩
  go_wp2
  go_ret
  exact ⟨_, rfl, o1, g1⟩
theorem oout_nil (w : World) : Calls Tryz.prog 153 #[.pointer none] w fun e w' => e = .returned (.slice none 0 0) ∧ w = w' := by
  go_enter Tryz.func153, Tryz.ntmps153
  go_wp2
  go_ret
  exact ⟨rfl, rfl⟩

def clampM (most : Int) : Nat := if most < 0 then 0 else if 16777216 < most then 16777216 else most.toNat
theorem onew_any (most : Int) (w : World) : Calls Tryz.prog 147 #[.int .i64 most] w fun e w' => e = .returned (.pointer (some ⟨w.heap.size, 0, none⟩)) ∧ OutO w.heap.size (· = w.heap.size) w' w.heap.size [] (clampM most) ∧ Grew w w' := by
  by_cases h1 : most < 0
  · have e : clampM most = 0 := by unfold clampM; rw [if_pos h1]
    have hle : most ≤ 0 := by omega
    rw [e]
    clear e
    go_enter Tryz.func147, Tryz.ntmps147
    go_wp2
    go_ret
    exact ⟨rfl, ⟨_, Blk.new _ _ _, ownB_nil _ _, by simp, by omega, Nat.le_refl _, fun k => by simp [Value.ownBlock]⟩, grew_alloc _ _⟩
  obtain ⟨m, rfl⟩ := Int.eq_ofNat_of_zero_le (by omega : 0 ≤ most)
  by_cases h2 : 16777216 < m
  · have e : clampM m = 16777216 := by unfold clampM; rw [if_neg (by omega), if_pos (by omega)]
    rw [e]
    clear e h1
    go_enter Tryz.func147, Tryz.ntmps147
    go_wp2
    go_ret
    exact ⟨rfl, ⟨_, Blk.new _ _ _, ownB_nil _ _, by simp, by omega, Nat.le_refl _, fun k => by simp [Value.ownBlock]⟩, grew_alloc _ _⟩
  · have e : clampM m = m := by unfold clampM; rw [if_neg (by omega), if_neg (by omega)]; simp
    have hle : m ≤ 16777216 := by omega
    rw [e]
    clear e h1 h2
    go_enter Tryz.func147, Tryz.ntmps147
    go_wp2
    go_ret
    exact ⟨rfl, ⟨_, Blk.new _ _ _, ownB_nil _ _, by simp, hle, Nat.le_refl _, fun k => by simp [Value.ownBlock]⟩, grew_alloc _ _⟩

/-- bytes more, if there is room: what there is then, and the error -/
def putR (b l : List UInt8) (m : Nat) : List UInt8 × Nat := if m < b.length + l.length then (b, 14) else (b ++ l, 0)
theorem putR_le (b l : List UInt8) (m : Nat) (h : b.length ≤ m) : (putR b l m).1.length ≤ m := by
  unfold putR; split
  · exact h
  · simp; omega
set_option maxHeartbeats 1000000 in
theorem raw_any (base : Nat) (F : Nat → Prop) (b l : List UInt8) (p m : Nat) (x : Value) (w : World) (h : OutO base F w p b m) (hx : Bs w x l) (_hl : l.length ≤ 100000000) :
    Calls Tryz.prog 163 #[.pointer (some ⟨p, 0, none⟩), x] w fun e w' => e = .returned (.int .i64 (putR b l m).2) ∧ OutP 223 base F p (putR b l m).1 m w w' := by
  obtain ⟨v, h1, h2, h3, h4, h5, h6⟩ := id h
  obtain ⟨a, c, rfl⟩ := bs_len (Sl.of_own h2)
  obtain ⟨ax, cx, rfl⟩ := bs_len hx
  by_cases hfit : m < b.length + l.length
  · have hd : decide (((m - b.length : Nat) : Int) < (l.length : Int)) = true := by simp; omega
    have hd2 : decide (m - b.length < l.length) = true := by simp; omega
    unfold putR
    rw [if_pos hfit]
    clear h1 h2 h6 hfit
    go_enter Tryz.func163, Tryz.ntmps163
    go_wp2_with fail
    refine (oleft_any base F b p m _ h).mono ?_
    rintro e1 w1 ⟨rfl, nd, rfl⟩
    go_wp2
    go_ret
    exact ⟨rfl, OutP.mk_grew h (Drew.grew ⟨_, rfl⟩)⟩
  · have hd : decide (((m - b.length : Nat) : Int) < (l.length : Int)) = false := by simp; omega
    have hd2 : decide (m - b.length < l.length) = false := by simp; omega
    unfold putR
    rw [if_neg hfit]
    have hne : some p ≠ (Value.slice a b.length c).ownBlock := blk_ne_row h1 h2 (by decide)
    have HN := Lib.hid hne
    have H6 := Lib.hid h6
    have hfit' : b.length + l.length ≤ m := by omega
    clear hfit hne h6
    go_enter Tryz.func163, Tryz.ntmps163
    go_wp2_with fail
    refine (oleft_any base F b p m _ h).mono ?_
    rintro e1 w1 ⟨rfl, nd, rfl⟩
    have hb1 := h1.drewN nd
    have ho1 := own_grew h2 (Drew.grew (⟨nd, rfl⟩ : Drew w (w.drewN nd)))
    obtain ⟨c0, c1, -, -⟩ := cells_of' hb1
    go_wp2_with (at_builtin; refine wpList_push2 rfl _ _ rfl base _ b rfl ho1 _ rfl l (hx.drew nd) (by omega) (by have := (own_lt ho1); have := hb1.lt; omega) ?_; intro v' w2 hown2 hB2 hgb0 hat; have hgb : (w.drewN nd).grownBy w2 (Value.slice a b.length c).ownBlock := hgb0; clear hgb0; obtain ⟨a', c', hv'⟩ := bs_len (Sl.of_own hown2); rw [List.length_append] at hv'; subst hv'; have hb2 := hb1.kept hgb HN.out; have f0 := hb2.frozen 0; have q0 := hb2.cell 0; simp only [List.getElem?_toArray, List.getElem?_cons_zero] at q0)
    go_ret
    have hg := (Fr.of_grew (S := F) (Drew.grew (⟨nd, rfl⟩ : Drew w (w.drewN nd)))).trans (Fr.of_grown hgb (fun k hk => (H6.out k).2 (.inr hk)))
    have hne2 : (Value.slice a' (b.length + l.length) c').ownBlock ≠ some p := fun e' => blk_ne_row hb2 hown2 (by decide) e'.symm
    refine ⟨rfl, fun k => k = p ∨ (Value.slice a' (b.length + l.length) c').ownBlock = some k, ⟨_, hb2.set 0 _, own_set hown2 _ _ hne2, by rw [List.length_append]; omega, h4, h5, fun k => Iff.rfl⟩, hg.set p 0 _ (fun _ => (H6.out p).2 (.inl rfl)), ?_⟩
    have hat' : (Value.slice a' (b.length + l.length) c').ownBlock = (Value.slice a b.length c).ownBlock ∨ (Value.slice a' (b.length + l.length) c').ownBlock = some (w.drewN nd).heap.size := hat
    rintro k (rfl | hk)
    · exact .inl ((H6.out k).2 (.inl rfl))
    · rcases hat' with hat | hat
      · exact .inl ((H6.out k).2 (.inr (by rw [← hat]; exact hk)))
      · rw [hat] at hk
        cases hk
        right; simp
theorem raw_nil (w : World) (x : Value) : Calls Tryz.prog 163 #[.pointer none, x] w fun e w' => e = .returned (.int .i64 14) ∧ w = w' := by
  go_enter Tryz.func163, Tryz.ntmps163
  go_wp2
  go_ret
  exact ⟨rfl, rfl⟩

theorem ovarint_any (base : Nat) (F : Nat → Prop) (b : List UInt8) (p m n : Nat) (hn : n < 18446744073709551616) (w : World) (h : OutO base F w p b m) :
    Calls Tryz.prog 149 #[.pointer (some ⟨p, 0, none⟩), .int .u64 n] w fun e w' => e = .returned (.int .i64 (putR b (vput n) m).2) ∧ OutP 223 base F p (putR b (vput n) m).1 m w w' := by
  have hl := vput_len10 n hn
  go_enter Tryz.func149, Tryz.ntmps149
  go_wp2_with fail
  refine (put_any n hn _).mono ?_
  rintro e1 w1 ⟨v1, rfl, o1, g1⟩
  have s1 := Sl.of_own o1
  obtain ⟨a1, c1, rfl⟩ := bs_len s1
  go_wp2_with fail
  refine (raw_any base F b (vput n) p m _ _ (h.grew g1) s1 (by omega)).mono ?_
  rintro e2 w2 ⟨rfl, h2⟩
  have H2 := Lib.hid h2
  clear h2
  go_wp2
  go_ret
  exact ⟨rfl, H2.out.pre g1⟩
theorem ofour_any (base : Nat) (F : Nat → Prop) (b : List UInt8) (p m n : Nat) (hn : n < 4294967296) (w : World) (h : OutO base F w p b m) :
    Calls Tryz.prog 151 #[.pointer (some ⟨p, 0, none⟩), .int .u32 n] w fun e w' => e = .returned (.int .i64 (putR b (fixB 4 n) m).2) ∧ OutP 223 base F p (putR b (fixB 4 n) m).1 m w w' := by
  have hl := fixB_length 4 n
  have HL := Lib.hid hl
  clear hl
  go_enter Tryz.func151, Tryz.ntmps151
  go_wp2_with fail
  refine (fix32_any n hn _).mono ?_
  rintro e1 w1 ⟨v1, rfl, o1, g1⟩
  have s1 := Sl.of_own o1
  obtain ⟨a1, c1, rfl⟩ := bs_len s1
  go_wp2_with fail
  refine (raw_any base F b (fixB 4 n) p m _ _ (h.grew g1) s1 (by rw [HL.out]; omega)).mono ?_
  rintro e2 w2 ⟨rfl, h2⟩
  have H2 := Lib.hid h2
  clear h2
  go_wp2
  go_ret
  exact ⟨rfl, H2.out.pre g1⟩
theorem oeight_any (base : Nat) (F : Nat → Prop) (b : List UInt8) (p m n : Nat) (hn : n < 18446744073709551616) (w : World) (h : OutO base F w p b m) :
    Calls Tryz.prog 150 #[.pointer (some ⟨p, 0, none⟩), .int .u64 n] w fun e w' => e = .returned (.int .i64 (putR b (fixB 8 n) m).2) ∧ OutP 223 base F p (putR b (fixB 8 n) m).1 m w w' := by
  have hl := fixB_length 8 n
  have HL := Lib.hid hl
  clear hl
  go_enter Tryz.func150, Tryz.ntmps150
  go_wp2_with fail
  refine (fix64_any n hn _).mono ?_
  rintro e1 w1 ⟨v1, rfl, o1, g1⟩
  have s1 := Sl.of_own o1
  obtain ⟨a1, c1, rfl⟩ := bs_len s1
  go_wp2_with fail
  refine (raw_any base F b (fixB 8 n) p m _ _ (h.grew g1) s1 (by rw [HL.out]; omega)).mono ?_
  rintro e2 w2 ⟨rfl, h2⟩
  have H2 := Lib.hid h2
  clear h2
  go_wp2
  go_ret
  exact ⟨rfl, H2.out.pre g1⟩

/-- a tag that is written: what there is then, and the error -/
def tagP (b : List UInt8) (num : Int) (wire m : Nat) : List UInt8 × Nat := if (tmake num wire).2 ≠ 0 then (b, (tmake num wire).2) else putR b (vput (tmake num wire).1) m
theorem otag_any (base : Nat) (F : Nat → Prop) (b : List UInt8) (p m : Nat) (num : Int) (wire : Nat) (h1 : -9223372036854775808 ≤ num) (h2 : num ≤ 9223372036854775807) (hw : wire < 256) (w : World) (h : OutO base F w p b m) :
    Calls Tryz.prog 148 #[.pointer (some ⟨p, 0, none⟩), .int .i64 num, .int .u8 wire] w fun e w' => e = .returned (.int .i64 (tagP b num wire m).2) ∧ OutP 223 base F p (tagP b num wire m).1 m w w' := by
  have hlt := tmake_lt num wire hw
  have K := fun w => make_any num wire h1 h2 hw w
  unfold tagP
  obtain ⟨⟨n, e⟩, hR⟩ : ∃ R, tmake num wire = R := ⟨_, rfl⟩
  simp only [hR] at K hlt ⊢
  have KG := Lib.hid K
  clear hR K
  by_cases he : e = 0
  · subst he
    rw [if_neg (by simp)]
    go_enter Tryz.func148, Tryz.ntmps148
    go_wp2_with fail
    refine (KG.out _).mono ?_
    rintro e1 w1 ⟨rfl, rfl⟩
    go_wp2_with fail
    refine (ovarint_any base F b p m n (by omega) _ h).mono ?_
    rintro e2 w2 ⟨rfl, h2⟩
    have H2 := Lib.hid h2
    clear h2
    go_wp2
    go_ret
    exact ⟨rfl, H2.out⟩
  · rw [if_pos he]
    have hne : ((e : Int) != 0) = true := by simp; omega
    clear he
    go_enter Tryz.func148, Tryz.ntmps148
    go_wp2_with fail
    refine (KG.out _).mono ?_
    rintro e1 w1 ⟨rfl, rfl⟩
    go_wp2
    go_ret
    exact ⟨rfl, OutP.mk_grew h (Below.refl _ _)⟩
end Go.Proofs.YtbjoohafgkodcaaGreat
namespace Go.Proofs.YtbjoohafgkodcaaGreat
open Go Go.RowKit Go.Shelf

theorem rbytes5_any (l : List UInt8) (x : Value) (w : World) (hx : Bs w x l) (hl : l.length ≤ 100000000) : Calls Tryz.prog 88 #[x] w fun e w' => ∃ v, e = .returned v ∧ OwnB w' w.heap.size v (vput l.length ++ l) ∧ Grew w w' := by
  obtain ⟨a, c, rfl⟩ := bs_len hx
  have h10 := vput_len10 l.length (by omega)
  have H10 := Lib.hid h10
  clear h10
  go_enter Tryz.func88, Tryz.ntmps88
  go_wp2_with fail
  refine (rput_any l.length (by omega) _).mono ?_
  rintro e1 w1 ⟨v1, rfl, o1, g1⟩
  have s1 := Sl.of_own o1
  obtain ⟨a1, c1, rfl⟩ := bs_len s1
  go_wp2_with fail
  refine (join_any (vput l.length) l _ _ _ s1 (hx.grew g1) (by have := H10.out; omega)).mono ?_
  rintro e2 w2 ⟨v2, rfl, o2, g2⟩
  go_wp2
  go_ret
  exact ⟨_, rfl, own_mono o2 g1.size, Grew.trans g1 g2⟩

end Go.Proofs.YtbjoohafgkodcaaGreat
namespace Go.Proofs.YtbjoohafgkodcaaGreat
open Go Go.RowKit Go.Shelf
attribute [local go_sem] Oper.semAt_some

/-- what a writer does to what was written: what there is then, and the error -/
abbrev Wr := List UInt8 → List UInt8 × Nat
/-- writers, one behind the other, up to the first error -/
def allGo : List Wr → Wr
  | [], b => (b, 0)
  | f :: t, b => if (f b).2 ≠ 0 then f b else allGo t (f b).1
/-- all of them, or none -/
def allR (fs : List Wr) (b : List UInt8) : List UInt8 × Nat := if (allGo fs b).2 ≠ 0 then (b, (allGo fs b).2) else allGo fs b
/-- a function value that writes so, where Env holds -/
def WrOk (Env : World → (Nat → Prop) → Prop) (base p m : Nat) (c : Value) (f : Wr) : Prop :=
  (c = .nilFunc ∧ ∀ b, f b = (b, 0)) ∨
  ((∀ b, b <+: (f b).1) ∧ (∀ b, b.length ≤ m → (f b).2 < 4294967296) ∧ ∃ g lb, c = .func (.func g) #[] lb ∧ (∀ args w, (callFunc g args).run Tryz.prog w = .ok (.enter g args) w) ∧
    ∀ F w b, Env w F → OutO base F w p b m → Calls Tryz.prog g (#[.pointer (some ⟨p, 0, none⟩)] ++ lb) w fun e w' => e = .returned (.int .i64 (f b).2) ∧ ∃ F', OutO base F' w' p (f b).1 m ∧ Fr F w w' ∧ (∀ k, F' k → F k ∨ w.heap.size ≤ k) ∧ Env w' F')

theorem own_take {w : World} {base : Nat} {a : Option Addr} {c : Nat} {l : List UInt8} (h : OwnB w base (.slice a l.length c) l) (k : Nat) (hk : k ≤ l.length) : OwnB w base (.slice a k c) (l.take k) := by
  have hlen : (l.take k).length = k := by rw [List.length_take]; omega
  obtain ⟨hl, h⟩ := h
  refine ⟨by rw [hlen]; simp [hk], ?_⟩
  rcases h with ⟨e, h0⟩ | ⟨g, cap, cur, e, hb, hg, hn, hc, hs, ht⟩
  · simp only [Value.slice.injEq] at e
    obtain ⟨rfl, e2, rfl⟩ := e
    obtain rfl : k = 0 := by omega
    exact .inl ⟨rfl, hlen⟩
  · simp only [Value.slice.injEq] at e
    obtain ⟨rfl, e2, rfl⟩ := e
    refine .inr ⟨g, c, cur, by rw [hlen], hb, hg, by rw [hlen]; omega, hc, hs, ?_⟩
    have e1 : bv (l.take k) = (bv l).take k := by simp [bv]
    rw [e1, ← ht, hlen]
    simp [List.take_take, Nat.min_eq_left hk]

theorem oall_nil (w : World) (x : Value) : Calls Tryz.prog 167 #[.pointer none, x] w fun e w' => e = .returned (.int .i64 14) ∧ w = w' := by
  go_enter Tryz.func167, Tryz.ntmps167
  go_wp2
  go_ret
  exact ⟨rfl, rfl⟩

set_option maxRecDepth 100000 in
set_option maxHeartbeats 2000000 in
theorem oall_any (Env : World → (Nat → Prop) → Prop) (base p m : Nat) (F : Nat → Prop) (b : List UInt8) (fs : List Wr) (cs : List Value) (vf : Value) (w : World) (hE : Env w F) (h : OutO base F w p b m)
    (hlen : cs.length = fs.length) (hlb : fs.length ≤ 1000000) (hS : ∀ w F, Env w F → Sl w vf fs.length 1 cs) (hW : ∀ (i : Nat) c f, cs[i]? = some c → fs[i]? = some f → WrOk Env base p m c f) :
    Calls Tryz.prog 167 #[.pointer (some ⟨p, 0, none⟩), vf] w fun e w' => e = .returned (.int .i64 (allR fs b).2) ∧ OutP 223 base F p (allR fs b).1 m w w' := by
  obtain ⟨v, h1, h2, h3, h4, h5, h6⟩ := id h
  obtain ⟨a, c, rfl⟩ := bs_len (Sl.of_own h2)
  obtain ⟨c0, c1, -, -⟩ := cells_of' h1
  obtain ⟨af, cf, rfl, -, -, -, -⟩ := (hS w F hE).open
  obtain ⟨R, hR⟩ : ∃ R, allR fs b = R := ⟨_, rfl⟩
  rw [hR]
  have HR := Lib.hid hR
  clear h1 h2 h6 hR
  have HW := Lib.hid hW
  have HS := Lib.hid hS
  have HLEN := Lib.hid hlen
  clear hW hS hlen
  go_enter Tryz.func167, Tryz.ntmps167
  go_wp2
  go_loopw [18] (fun i wr => ∃ (k : Nat) (cur : List UInt8) (F' : Nat → Prop), k ≤ fs.length ∧ i = .int .i64 k ∧ OutO base F' wr p cur m ∧ Env wr F' ∧ b <+: cur ∧ allGo fs b = allGo (fs.drop k) cur ∧ Fr F w wr ∧ ∀ j, F' j → F j ∨ w.heap.size ≤ j) (fun i _ => fs.length - (intOf i).toNat)
  case atStart => exact ⟨0, b, F, by omega, rfl, h, hE, List.prefix_refl _, rfl, Fr.refl _ _, fun j hj => .inl hj⟩
  case round =>
    obtain ⟨k, cur, F', hk, rfl, hO, hEk, hpre, hgo, hfr, hfresh⟩ := hrel
    clear c0 c1 hE h
    by_cases hlt : k < fs.length
    · obtain ⟨af', cf', e, -, -, -, hcell⟩ := (HS.out wr F' hEk).open
      cases e
      obtain ⟨bk, off, rfl, hc⟩ := hcell (by omega)
      have hkc : k < cs.length := by rw [HLEN.out]; exact hlt
      have d := hc k _ (List.getElem?_eq_getElem hkc)
      have hw := HW.out k _ _ (List.getElem?_eq_getElem hkc) (List.getElem?_eq_getElem hlt)
      obtain ⟨cv, hcv⟩ : ∃ cv, cs[k] = cv := ⟨_, rfl⟩
      rw [hcv] at hw d
      have hd : fs.drop k = fs[k] :: fs.drop (k + 1) := List.drop_eq_getElem_cons hlt
      obtain ⟨f, hf⟩ : ∃ f, fs[k] = f := ⟨_, rfl⟩
      rw [hf] at hw hd
      rw [hd, allGo] at hgo
      clear hc hcell hcv hd hf
      rcases hw with ⟨rfl, hfb⟩ | ⟨hmono, hbd, g, lb, rfl, heg, hcall⟩
      · rw [hfb] at hgo
        simp only [ne_eq, not_true_eq_false, if_false] at hgo
        have HGO := Lib.hid hgo
        have HPRE := Lib.hid hpre
        clear hgo hfb hpre
        have hq : ∀ w : World, (binOp .eql 227 .nilFunc .nilFunc).run Tryz.prog w = .ok (.bool true) w := fun w => by kernel_rfl
        go_wp2
        go_roundw
        case rel => exact ⟨k + 1, cur, F', by omega, by go_num, hO, hEk, HPRE.out, HGO.out, hfr, hfresh⟩
        case measure => simp [intOf]; omega
      · have hcl := hcall F' wr cur hEk hO
        have hmo := hmono cur
        obtain ⟨⟨nx, e⟩, hfc⟩ : ∃ r, f cur = r := ⟨_, rfl⟩
        rw [hfc] at hcl hgo hmo
        simp only at hcl hgo hmo
        have HCL := Lib.hid hcl
        have HGO := Lib.hid hgo
        have HPRE := Lib.hid hpre
        have HMO := Lib.hid hmo
        clear hcl hgo hpre hcall hmono hbd hfc hmo
        have hq : ∀ w : World, (binOp .eql 227 (.func (.func g) #[] lb) .nilFunc).run Tryz.prog w = .ok (.bool false) w := fun w => by kernel_rfl
        go_wp2_with fail
        refine HCL.out.mono ?_
        rintro e3 w3 ⟨rfl, F2, hO2, hf2, hn2, hE2⟩
        have hpre2 := Lib.hid (List.IsPrefix.trans HPRE.out HMO.out)
        have hfr2 : Fr F w w3 := hfr.trans' hf2 (fun i hi hs => by
          rcases hfresh i hs with h | h
          · exact h
          · omega)
        have hfresh2 : ∀ j, F2 j → F j ∨ w.heap.size ≤ j := fun j hj => by
          rcases hn2 j hj with h | h
          · exact hfresh j h
          · exact .inr (Nat.le_trans hfr.size h)
        clear hq d heg hO hEk
        by_cases he : e = 0
        · subst he
          have hgo2 : allGo fs b = allGo (fs.drop (k + 1)) nx := by rw [HGO.out]; simp
          have HG2 := Lib.hid hgo2
          clear hgo2
          go_wp2
          go_roundw
          case rel => exact ⟨k + 1, nx, F2, by omega, by go_num, hO2, hE2, hpre2.out, HG2.out, hfr2, hfresh2⟩
          case measure => simp [intOf]; omega
        · have hgo2 : allR fs b = (b, e) := by rw [allR, HGO.out]; simp [he]
          have HG2 := Lib.hid hgo2
          have hne : ((e : Int) != 0) = true := by simp; omega
          obtain ⟨v2, k1, k2, k3, k4, k5, k6⟩ := id hO2
          obtain ⟨a2, cap2, rfl, q1, q2, -⟩ := (Sl.of_own k2).open
          unfold maxLen at q2
          have hple := hpre2.out.length_le
          have hcap : b.length ≤ cap2 := by omega
          obtain ⟨c0, c1, f0, f1⟩ := cells_of' k1
          clear he hgo2
          go_wp2
          go_ret
          have htk : nx.take b.length = b := by
            obtain ⟨t, rfl⟩ := hpre2.out
            simp
          have hot := own_take k2 b.length hple
          rw [htk] at hot
          have hne2 : (Value.slice a2 b.length cap2).ownBlock ≠ some p := fun e' => blk_ne_row k1 hot (by decide) e'.symm
          have hob : (Value.slice a2 b.length cap2).ownBlock = (Value.slice a2 nx.length cap2).ownBlock := by cases a2 <;> rfl
          rw [← HR.out, HG2.out]
          have hfp : ∀ j, j = p → p < w.heap.size → F j := fun j hj hpl => by
            subst hj
            rcases hfresh2 j ((k6 j).2 (.inl rfl)) with h | h
            · exact h
            · omega
          exact ⟨rfl, F2, ⟨_, k1.set 0 _, own_set hot _ _ hne2, by omega, k4, k5, fun j => by rw [hob]; exact k6 j⟩, hfr2.set p 0 _ (fun h => hfp p rfl h), hfresh2⟩
    · obtain rfl : k = fs.length := by omega
      rw [List.drop_length] at hgo
      have HGO := Lib.hid hgo
      clear hgo
      go_wp2
      go_ret
      rw [← HR.out, allR, HGO.out]
      exact ⟨rfl, F', hO, hfr, hfresh⟩

/-! ## a length, and bytes -/
theorem bytes_fs (b l : List UInt8) (m : Nat) (_hb : b.length ≤ m) : allR [fun b => putR b (vput l.length) m, fun b => putR b l m] b = putR b (vput l.length ++ l) m := by
  unfold allR allGo allGo allGo putR
  by_cases h1 : m < b.length + (vput l.length).length
  · simp [h1, show m < b.length + ((vput l.length).length + l.length) by omega]
  · by_cases h2 : m < b.length + (vput l.length).length + l.length
    · simp [h1, h2, show m < b.length + ((vput l.length).length + l.length) by omega]
    · simp [h1, h2, show ¬ m < b.length + ((vput l.length).length + l.length) by omega]
theorem obytes1_any (base : Nat) (F : Nat → Prop) (b l : List UInt8) (p m t3 : Nat) (a : Option Addr) (c : Nat) (w : World) (h : OutO base F w p b m) (hb : Blk w t3 22 #[.slice a l.length c]) (hl : l.length ≤ 100000000) :
    Calls Tryz.prog 168 #[.pointer (some ⟨p, 0, none⟩), .pointer (some ⟨t3, 0, none⟩)] w fun e w' => e = .returned (.int .i64 (putR b (vput l.length) m).2) ∧ OutP 223 base F p (putR b (vput l.length) m).1 m w w' := by
  have c0 := hb.cell 0
  simp only [List.getElem?_toArray, List.getElem?_cons_zero] at c0
  go_enter Tryz.func168, Tryz.ntmps168
  go_wp2_with fail
  refine (ovarint_any base F b p m l.length (by omega) _ h).mono ?_
  rintro e2 w2 ⟨rfl, h2⟩
  have H2 := Lib.hid h2
  clear h2
  go_wp2
  go_ret
  exact ⟨rfl, H2.out⟩
theorem obytes2_any (base : Nat) (F : Nat → Prop) (b l : List UInt8) (p m t3 : Nat) (a : Option Addr) (c : Nat) (w : World) (h : OutO base F w p b m) (hb : Blk w t3 22 #[.slice a l.length c]) (hx : Bs w (.slice a l.length c) l) (hl : l.length ≤ 100000000) :
    Calls Tryz.prog 169 #[.pointer (some ⟨p, 0, none⟩), .pointer (some ⟨t3, 0, none⟩)] w fun e w' => e = .returned (.int .i64 (putR b l m).2) ∧ OutP 223 base F p (putR b l m).1 m w w' := by
  have c0 := hb.cell 0
  simp only [List.getElem?_toArray, List.getElem?_cons_zero] at c0
  go_enter Tryz.func169, Tryz.ntmps169
  go_wp2_with fail
  refine (raw_any base F b l p m _ _ h hx hl).mono ?_
  rintro e2 w2 ⟨rfl, h2⟩
  have H2 := Lib.hid h2
  clear h2
  go_wp2
  go_ret
  exact ⟨rfl, H2.out⟩
theorem putR_pre (b l : List UInt8) (m : Nat) : b <+: (putR b l m).1 := by
  unfold putR; split
  · exact List.prefix_refl _
  · exact List.prefix_append _ _
theorem putR_err (b l : List UInt8) (m : Nat) : (putR b l m).2 < 4294967296 := by
  unfold putR; split <;> simp
/-- what Bytes' two writers find -/
def BytesEnv (x : Value) (l : List UInt8) (t3 ts : Nat) (cs : Array Value) (tt : TypeId) (W : World) (F : Nat → Prop) : Prop :=
  Bs W x l ∧ Blk W t3 22 #[x] ∧ Blk W ts tt cs ∧ (∀ g, Value.blk x = some g → l ≠ [] → g < W.heap.size ∧ ¬ F g) ∧ ¬ F t3 ∧ ¬ F ts
theorem BytesEnv.step {x : Value} {l : List UInt8} {t3 ts : Nat} {cs : Array Value} {tt : TypeId} {W W' : World} {F F' : Nat → Prop} (h : BytesEnv x l t3 ts cs tt W F) (hf : Fr F W W') (hn : ∀ k, F' k → F k ∨ W.heap.size ≤ k) : BytesEnv x l t3 ts cs tt W' F' := by
  obtain ⟨h1, h2, h3, h4, h5, h6⟩ := h
  refine ⟨h1.fr hf (fun g hg hc => (h4 g hg (by intro e; subst e; exact hc rfl)).2), h2.fr hf h5, h3.fr hf h6, fun g hg hc => ?_, fun hk => ?_, fun hk => ?_⟩
  · obtain ⟨q1, q2⟩ := h4 g hg hc
    refine ⟨Nat.lt_of_lt_of_le q1 hf.size, fun hk => ?_⟩
    rcases hn g hk with h | h
    · exact q2 h
    · omega
  · rcases hn t3 hk with h | h
    · exact h5 h
    · have := h2.lt; omega
  · rcases hn ts hk with h | h
    · exact h6 h
    · have := h3.lt; omega

set_option maxRecDepth 100000 in
set_option maxHeartbeats 1000000 in
theorem obytes_any (base : Nat) (F : Nat → Prop) (b l : List UInt8) (p m : Nat) (x : Value) (w : World) (h : OutO base F w p b m) (hx : Bs w x l) (hdis : ∀ g, Value.blk x = some g → l ≠ [] → ¬ F g) (hl : l.length ≤ 100000000) :
    Calls Tryz.prog 152 #[.pointer (some ⟨p, 0, none⟩), x] w fun e w' => e = .returned (.int .i64 (putR b (vput l.length ++ l) m).2) ∧ OutP 223 base F p (putR b (vput l.length ++ l) m).1 m w w' := by
  have hbm : b.length ≤ m := h.choose_spec.2.2.1
  rw [← bytes_fs b l m hbm]
  obtain ⟨a, c, rfl⟩ := bs_len hx
  have hlt : ∀ g, Value.blk (.slice a l.length c) = some g → l ≠ [] → g < w.heap.size := fun g hg hc => by
    obtain ⟨_, _, _, e, _, _, _, hcell⟩ := hx
    cases e
    cases a with
    | none => cases hg
    | some ad =>
      cases hg
      have hpos : 0 < (bv l).length := by rw [bv_length]; exact List.length_pos_iff.2 hc
      have h0 : (bv l)[0]? = some (bv l)[0] := List.getElem?_eq_getElem hpos
      have := cell_lt (hcell ad rfl 0 _ h0)
      rwa [add_block] at this
  have g2 := Grew.trans (grew_alloc w (.cells #[.slice a l.length c] 22)) (grew_alloc (w.alloc (.cells #[.slice a l.length c] 22)) (.cells #[.func (.func 168) #[] #[.pointer (some ⟨w.heap.size, 0, none⟩)], .func (.func 169) #[] #[.pointer (some ⟨w.heap.size, 0, none⟩)]] 227))
  have hE : BytesEnv (.slice a l.length c) l w.heap.size (w.heap.size + 1) #[.func (.func 168) #[] #[.pointer (some ⟨w.heap.size, 0, none⟩)], .func (.func 169) #[] #[.pointer (some ⟨w.heap.size, 0, none⟩)]] 227
      ((w.alloc (.cells #[.slice a l.length c] 22)).alloc (.cells #[.func (.func 168) #[] #[.pointer (some ⟨w.heap.size, 0, none⟩)], .func (.func 169) #[] #[.pointer (some ⟨w.heap.size, 0, none⟩)]] 227)) F :=
    ⟨hx.grew g2, (Blk.new _ _ _).alloc _, Blk.at (by simp), fun g hg hc => ⟨by have := hlt g hg hc; simp; omega, hdis g hg hc⟩, fun hk => by have := (h.own _ hk).2; omega, fun hk => by have := (h.own _ hk).2; omega⟩
  have hf1 := enters_of Tryz.func168 (by kernel_rfl) rfl
  have hf2 := enters_of Tryz.func169 (by kernel_rfl) rfl
  have hall := fun w1 hE1 hO1 => oall_any (BytesEnv (.slice a l.length c) l w.heap.size (w.heap.size + 1) #[.func (.func 168) #[] #[.pointer (some ⟨w.heap.size, 0, none⟩)], .func (.func 169) #[] #[.pointer (some ⟨w.heap.size, 0, none⟩)]] 227) base p m F b
    [fun b => putR b (vput l.length) m, fun b => putR b l m] [.func (.func 168) #[] #[.pointer (some ⟨w.heap.size, 0, none⟩)], .func (.func 169) #[] #[.pointer (some ⟨w.heap.size, 0, none⟩)]] (.slice (some ⟨w.heap.size + 1, 0, none⟩) 2 2) w1 hE1 hO1 rfl (by simp) ?_ ?_
  rotate_left
  · rintro W F' ⟨-, -, hbs, -⟩
    refine ⟨rfl, _, 2, rfl, Nat.le_refl _, by unfold maxLen; omega, (fun h => by cases h), ?_⟩
    rintro ad had j u hu
    cases had
    rw [Addr.add_lit, Nat.zero_add, hbs.cell]
    simpa using hu
  · intro i cc f hc hf
    match i with
    | 0 =>
      cases hc
      cases hf
      refine .inr ⟨fun b => putR_pre _ _ _, fun b _ => putR_err _ _ _, 168, _, rfl, hf1, fun F1 w1 b1 hE1 hO1 => ?_⟩
      refine (obytes1_any base F1 b1 l p m _ a c w1 hO1 hE1.2.1 hl).mono ?_
      rintro e w2 ⟨rfl, F2, q1, q2, q3⟩
      exact ⟨rfl, F2, q1, q2, q3, hE1.step q2 q3⟩
    | 1 =>
      cases hc
      cases hf
      refine .inr ⟨fun b => putR_pre _ _ _, fun b _ => putR_err _ _ _, 169, _, rfl, hf2, fun F1 w1 b1 hE1 hO1 => ?_⟩
      refine (obytes2_any base F1 b1 l p m _ a c w1 hO1 hE1.2.1 hE1.1 hl).mono ?_
      rintro e w2 ⟨rfl, F2, q1, q2, q3⟩
      exact ⟨rfl, F2, q1, q2, q3, hE1.step q2 q3⟩
    | j + 2 => simp at hc
  have HALL := Lib.hid (hall _ hE (h.grew g2))
  clear hall hlt hdis hE hf1 hf2
  go_enter Tryz.func152, Tryz.ntmps152
  go_wp2_with fail
  refine HALL.out.mono ?_
  rintro e2 w2 ⟨rfl, h2⟩
  have H2 := Lib.hid h2
  clear h2
  go_wp2
  go_ret
  exact ⟨rfl, H2.out.pre g2⟩
end Go.Proofs.YtbjoohafgkodcaaGreat
namespace Go.Proofs.YtbjoohafgkodcaaGreat
open Go Go.RowKit Go.Shelf
attribute [local go_sem] Oper.semAt_some

theorem vput_le10 (n : Nat) (h : n < 18446744073709551616) : (vput n).length ≤ 10 := by
  have := vput_len 9 n (by omega)
  omega
theorem putR_room (b l : List UInt8) (m : Nat) (h : b.length + l.length ≤ m) : putR b l m = (b ++ l, 0) := by unfold putR; rw [if_neg (by omega)]
theorem valB_len {x : Fld} (hx : x.ok) (hb : (fB x).length ≤ 8192) : (valB x).length ≤ 8202 := by
  obtain ⟨-, -, -, hn⟩ := hx
  unfold valB
  split
  · have := vput_le10 (fN x) hn; omega
  split
  · rw [fixB_length]; omega
  split
  · rw [fixB_length]; omega
  · rw [List.length_append]
    have := vput_le10 (fB x).length (by omega)
    omega
set_option maxRecDepth 100000 in
set_option maxHeartbeats 4000000 in
theorem skput_any (x : Fld) (v : Value) (w : World) (hx : x.ok) (hb : Bs w v (fB x)) (hl : (fB x).length ≤ 100000000) :
    Calls Tryz.prog 138 #[fldA x v] w fun e w' => ∃ v', e = .returned (.tuple #[v', .int .i64 (putF x).2]) ∧ OwnB w' w.heap.size v' (putF x).1 ∧ Grew w w' := by
  obtain ⟨num, wire, n, bs, p1⟩ := x
  obtain ⟨hx1, hx2, hx3, hx4⟩ := id hx
  simp only [fNum, fWire, fN, fB] at hb hl hx1 hx2 hx3 hx4
  obtain ⟨a, c, rfl⟩ := bs_len hb
  obtain ⟨w0, hw0⟩ : ∃ w0, w0 = w.alloc (.cells #[.int .i64 num, .int .u8 wire, .int .u64 n, .slice a bs.length c, .int .i64 p1] 101) := ⟨_, rfl⟩
  have gw0 : Grew w w0 := by rw [hw0]; exact grew_alloc _ _
  have k0 : Blk w0 w.heap.size 101 #[.int .i64 num, .int .u8 wire, .int .u64 n, .slice a bs.length c, .int .i64 p1] := by rw [hw0]; exact Blk.new _ _ _
  obtain ⟨T, hT⟩ : ∃ T, T = tmake num wire := ⟨_, rfl⟩
  obtain ⟨R, hR⟩ : ∃ R, R = putF (num, wire, n, bs, p1) := ⟨_, rfl⟩
  rw [← hR]
  have HR := Lib.hid hR
  have HT := Lib.hid hT
  have HX := Lib.hid hx
  have HB := Lib.hid (hb.grew gw0)
  have GW := Lib.hid gw0
  have hlt := tmake_lt num wire hx3
  rw [← hT] at hlt
  have KT := Lib.hid (fun base F b p m w h => otag_any base F b p m num wire hx1 hx2 hx3 w h)
  clear hR hT hx hb gw0 hx1 hx2
  go_enter Tryz.func138, Tryz.ntmps138
  go_wp2_with fail
  rw [← hw0]
  refine (onew_any 1048576 w0).mono ?_
  rintro e w1 ⟨rfl, hO, g1⟩
  have hcl : clampM 1048576 = 1048576 := by decide
  rw [hcl] at hO
  obtain ⟨p, hp⟩ : ∃ p, p = w0.heap.size := ⟨_, rfl⟩
  have hz0 : w.heap.size < p := by rw [hp, hw0]; simp
  rw [← hp] at hO ⊢
  have hpz : w0.heap.size ≤ p := by omega
  have k1 := k0.grew g1
  obtain ⟨x0, x1, x2, x3, x4, -⟩ := cells5 k1
  clear hcl hw0 hp
  go_wp2_with fail
  refine (KT.out _ _ _ _ _ _ hO).mono ?_
  have HTT : RowKit.Hid (tagP [] num wire 1048576 = if T.2 ≠ 0 then ([], T.2) else (vput T.1, 0)) := Lib.hid (by
    unfold tagP
    rw [← HT.out]
    split
    · rfl
    · rw [putR_room _ _ _ (by have := vput_le10 T.1 (by omega); simp; omega)]; rfl)
  rw [HTT.out]
  by_cases ht : T.2 ≠ 0
  · have hne : ((T.2 : Int) != 0) = true := by simp; omega
    have HRR := Lib.hid (show R = ([], T.2) by rw [HR.out]; unfold putF; simp only [fNum, fWire]; rw [← HT.out, if_pos ht])
    rintro e w2 ⟨rfl, F2, hO2, hF2, hN2⟩
    have G2 : Grew w w2 := hF2.grew (GW.out.trans g1) (fun i e => by omega)
    rw [if_pos ht]
    clear ht hO2
    go_wp2
    go_ret2
    rw [HRR.out]
    exact ⟨_, rfl, ownB_nil _ _, G2⟩
  · rw [if_neg ht]
    rintro e w2 ⟨rfl, F2, hO2, hF2, hN2⟩
    have hz1 := g1.size
    have hw0z := k0.lt
    have k2 := k1.fr hF2 (by omega)
    have hz2 := hF2.size
    have G2 : Grew w w2 := hF2.grew (GW.out.trans g1) (fun i e => by omega)
    have hmk := tmake_ok (num := num) (wire := wire) (by rw [← HT.out]; omega)
    have HTV := Lib.hid (vput_le10 T.1 (by omega))
    have HP0 := Lib.hid (show (¬ (wire = 2 ∧ 8192 < bs.length)) → R = (vput T.1 ++ valB (num, wire, n, bs, p1), 0) from fun h => by rw [HR.out]; unfold putF; simp only [fNum, fWire, fB]; rw [← HT.out, if_neg ht, if_neg h])
    have HP1 := Lib.hid (show wire = 2 → 8192 < bs.length → R = ([], 2) from fun h h' => by rw [HR.out]; unfold putF; simp only [fNum, fWire, fB]; rw [← HT.out, if_neg ht, if_pos ⟨h, h'⟩])
    have hVB := Lib.hid (show bs.length ≤ 8192 → (valB (num, wire, n, bs, p1)).length ≤ 8202 from fun h => valB_len HX.out h)
    have hF2' := hF2
    have hp0 : w0.heap.size ≤ p := hpz
    clear k1 x0 x1 x2 x3 x4 hO ht hF2
    obtain ⟨x0, x1, x2, x3, x4, -⟩ := cells5 k2
    have hw4 := hmk.2.2.1
    clear hmk
    have hp1 : w1.heap.size ≤ w2.heap.size := hz2
    rcases wireB_or hw4 with rfl | rfl | rfl | rfl
    · have HP := Lib.hid (show R = (vput T.1 ++ vput n, 0) from HP0.out (by omega))
      go_wp2_with fail
      refine (ovarint_any _ _ _ _ _ n hx4 _ hO2).mono ?_
      rw [putR_room _ _ _ (by have := HTV.out; have := vput_le10 n hx4; omega)]
      rintro e w3 ⟨rfl, F3, hO3, hF3, hN3⟩
      have G3 : Grew w w3 := hF3.grew G2 (fun i hi => by have := (hO2.own i hi).1; omega)
      have hO3' := Lib.hid hO3
      clear hO3 hO2 x0 x1 x2 x3 x4
      go_wp2_with fail
      refine (oout_any _ _ _ _ _ _ hO3'.out).mono ?_
      rintro e w4 ⟨v4, rfl, ho4, g4⟩
      obtain ⟨a4, n4, c4, rfl, hn4⟩ := bs_shape (Sl.of_own ho4)
      have hz3 := G3.size
      have HO4 := Lib.hid ho4
      clear ho4
      go_wp2
      go_ret2
      rw [HP.out]
      exact ⟨_, rfl, own_mono HO4.out hz3, G3.trans g4⟩
    · have HP := Lib.hid (show R = (vput T.1 ++ fixB 8 n, 0) from HP0.out (by omega))
      go_wp2_with fail
      refine (oeight_any _ _ _ _ _ n hx4 _ hO2).mono ?_
      rw [putR_room _ _ _ (by have := HTV.out; rw [fixB_length]; omega)]
      rintro e w3 ⟨rfl, F3, hO3, hF3, hN3⟩
      have G3 : Grew w w3 := hF3.grew G2 (fun i hi => by have := (hO2.own i hi).1; omega)
      have hO3' := Lib.hid hO3
      clear hO3 hO2 x0 x1 x2 x3 x4
      go_wp2_with fail
      refine (oout_any _ _ _ _ _ _ hO3'.out).mono ?_
      rintro e w4 ⟨v4, rfl, ho4, g4⟩
      obtain ⟨a4, n4, c4, rfl, hn4⟩ := bs_shape (Sl.of_own ho4)
      have hz3 := G3.size
      have HO4 := Lib.hid ho4
      clear ho4
      go_wp2
      go_ret2
      rw [HP.out]
      exact ⟨_, rfl, own_mono HO4.out hz3, G3.trans g4⟩
    · by_cases hbig : 8192 < bs.length
      · have HP := Lib.hid (HP1.out rfl hbig)
        have hd : decide ((bs.length : Int) > 8192) = true := by simp; omega
        clear hbig
        go_wp2
        go_ret2
        rw [HP.out]
        exact ⟨_, rfl, ownB_nil _ _, G2⟩
      · have hd : decide ((bs.length : Int) > 8192) = false := by simp; omega
        have HP := Lib.hid (show R = (vput T.1 ++ (vput bs.length ++ bs), 0) from HP0.out (by omega))
        have hb8 : bs.length ≤ 8192 := by omega
        clear hbig
        go_wp2_with fail
        have hbs2 : Bs w2 (.slice a bs.length c) bs := (HB.out.grew g1).fr hF2' (fun g hg hne e => by have := HB.out.blk_lt g hg hne; omega)
        refine (obytes_any _ _ _ bs _ _ _ _ hO2 hbs2 (fun g hg hne hf => by have := HB.out.blk_lt g hg (by simpa [bv] using hne); have := (hO2.own g hf).1; omega) (by omega)).mono ?_
        rw [putR_room _ _ _ (by have := HTV.out; have := vput_le10 bs.length (by omega); rw [List.length_append]; omega)]
        rintro e w3 ⟨rfl, F3, hO3, hF3, hN3⟩
        have G3 : Grew w w3 := hF3.grew G2 (fun i hi => by have := (hO2.own i hi).1; omega)
        have hO3' := Lib.hid hO3
        clear hO3 hO2 x0 x1 x2 x3 x4
        go_wp2_with fail
        refine (oout_any _ _ _ _ _ _ hO3'.out).mono ?_
        rintro e w4 ⟨v4, rfl, ho4, g4⟩
        obtain ⟨a4, n4, c4, rfl, hn4⟩ := bs_shape (Sl.of_own ho4)
        have hz3 := G3.size
        have HO4 := Lib.hid ho4
        clear ho4
        go_wp2
        go_ret2
        rw [HP.out]
        exact ⟨_, rfl, own_mono HO4.out hz3, G3.trans g4⟩
    · have HP := Lib.hid (show R = (vput T.1 ++ fixB 4 (n % 4294967296), 0) from HP0.out (by omega))
      go_wp2_with fail
      refine (ofour_any _ _ _ _ _ (n % 4294967296) (by omega) _ hO2).mono ?_
      rw [putR_room _ _ _ (by have := HTV.out; rw [fixB_length]; omega)]
      rintro e w3 ⟨rfl, F3, hO3, hF3, hN3⟩
      have G3 : Grew w w3 := hF3.grew G2 (fun i hi => by have := (hO2.own i hi).1; omega)
      have hO3' := Lib.hid hO3
      clear hO3 hO2 x0 x1 x2 x3 x4
      go_wp2_with fail
      refine (oout_any _ _ _ _ _ _ hO3'.out).mono ?_
      rintro e w4 ⟨v4, rfl, ho4, g4⟩
      obtain ⟨a4, n4, c4, rfl, hn4⟩ := bs_shape (Sl.of_own ho4)
      have hz3 := G3.size
      have HO4 := Lib.hid ho4
      clear ho4
      go_wp2
      go_ret2
      rw [HP.out]
      exact ⟨_, rfl, own_mono HO4.out hz3, G3.trans g4⟩
set_option maxRecDepth 100000 in
set_option maxHeartbeats 4000000 in
theorem r06bytes_any (x : Fld) (v : Value) (w : World) (hx : x.ok) (h0 : (tmake (fNum x) (fWire x)).2 = 0) (hb : Bs w v (fB x)) (hl : (fB x).length ≤ 100000000) :
    Calls Tryz.prog 67 #[fldA x v] w fun e w' => ∃ v', e = .returned v' ∧ OwnB w' w.heap.size v' (vput (tmake (fNum x) (fWire x)).1 ++ valB x) ∧ Grew w w' := by
  obtain ⟨num, wire, n, bs, p1⟩ := x
  obtain ⟨hx1, hx2, hx3, hx4⟩ := id hx
  simp only [fNum, fWire, fN, fB] at hb hl hx1 hx2 hx3 hx4 h0 ⊢
  obtain ⟨a, c, rfl⟩ := bs_len hb
  obtain ⟨w0, hw0⟩ : ∃ w0, w0 = w.alloc (.cells #[.int .i64 num, .int .u8 wire, .int .u64 n, .slice a bs.length c, .int .i64 p1] 101) := ⟨_, rfl⟩
  have gw0 : Grew w w0 := by rw [hw0]; exact grew_alloc _ _
  have k0 : Blk w0 w.heap.size 101 #[.int .i64 num, .int .u8 wire, .int .u64 n, .slice a bs.length c, .int .i64 p1] := by rw [hw0]; exact Blk.new _ _ _
  obtain ⟨x0, x1, x2, x3, x4, -⟩ := cells5 k0
  have hmk := tmake_ok h0
  have HM := Lib.hid (rmake_any num wire hx1 hx2 hx3)
  obtain ⟨T, hT⟩ : ∃ T, T = tmake num wire := ⟨_, rfl⟩
  rw [← hT] at h0 HM hmk ⊢
  obtain ⟨t1, t2⟩ := T
  simp only at h0 HM hmk ⊢
  subst h0
  have HB := Lib.hid (hb.grew gw0)
  have GW := Lib.hid gw0
  have hw4 := hmk.2.2.1
  have ht1 := hmk.2.2.2
  have KP := Lib.hid (fun w => rput_any t1 ht1 w)
  have KN := Lib.hid (fun w => rput_any n hx4 w)
  clear hT hmk hb gw0
  go_enter Tryz.func67, Tryz.ntmps67
  go_wp2_with fail
  rw [← hw0]
  clear hw0
  refine (HM.out w0).mono ?_
  rintro e w1 ⟨rfl, rfl⟩
  go_wp2_with fail
  refine (KP.out _).mono ?_
  rintro e w1 ⟨v1, rfl, ho1, g1⟩
  obtain ⟨a1, c1, rfl⟩ := bs_len (Sl.of_own ho1)
  have k1 := k0.grew g1
  have hv10 := vput_le10 t1 ht1
  have HO1 := Lib.hid ho1
  have HVT := Lib.hid hv10
  clear k0 x0 x1 x2 x3 x4 ho1 hv10
  obtain ⟨x0, x1, x2, x3, x4, -⟩ := cells5 k1
  rcases wireB_or hw4 with rfl | rfl | rfl | rfl
  · go_wp2_with fail
    refine (KN.out _).mono ?_
    rintro e w2 ⟨v2, rfl, ho2, g2⟩
    obtain ⟨a2, c2, rfl⟩ := bs_len (Sl.of_own ho2)
    have hz2 := g1.size
    have kj := join_any (vput t1) (vput n) _ _ w2 ((Sl.of_own HO1.out).grew g2) (Sl.of_own ho2) (by have := HVT.out; have := vput_le10 n hx4; omega)
    have KJ := Lib.hid kj
    clear ho2 kj
    go_wp2_with fail
    refine (KJ.out).mono ?_
    rintro e w3 ⟨v3, rfl, ho3, g3⟩
    obtain ⟨a3, n3, c3, rfl, hn3⟩ := bs_shape (Sl.of_own ho3)
    have hz3 := g2.size
    have HO3 := Lib.hid ho3
    clear ho3
    go_wp2
    go_ret
    exact ⟨_, rfl, own_mono HO3.out (by have := GW.out.size; omega), ((GW.out.trans g1).trans g2).trans g3⟩
  · go_wp2_with fail
    refine (rfix_any n 8 (by omega) hx4 _).mono ?_
    rintro e w2 ⟨v2, rfl, ho2, g2⟩
    obtain ⟨a2, c2, rfl⟩ := bs_len (Sl.of_own ho2)
    have hz2 := g1.size
    have kj := join_any (vput t1) (fixB 8 n) _ _ w2 ((Sl.of_own HO1.out).grew g2) (Sl.of_own ho2) (by have := HVT.out; rw [fixB_length]; omega)
    have KJ := Lib.hid kj
    clear ho2 kj
    go_wp2_with fail
    refine (KJ.out).mono ?_
    rintro e w3 ⟨v3, rfl, ho3, g3⟩
    obtain ⟨a3, n3, c3, rfl, hn3⟩ := bs_shape (Sl.of_own ho3)
    have hz3 := g2.size
    have HO3 := Lib.hid ho3
    clear ho3
    go_wp2
    go_ret
    exact ⟨_, rfl, own_mono HO3.out (by have := GW.out.size; omega), ((GW.out.trans g1).trans g2).trans g3⟩
  · go_wp2_with fail
    refine (rbytes5_any bs _ _ (HB.out.grew g1) hl).mono ?_
    have hLl : (vput bs.length ++ bs).length ≤ 200000000 := by have := vput_le10 bs.length (by omega); rw [List.length_append]; omega
    obtain ⟨L, hL⟩ : ∃ L, L = vput bs.length ++ bs := ⟨_, rfl⟩
    have HL := Lib.hid (show valB (num, 2, n, bs, p1) = L from hL.symm)
    rw [← hL] at hLl ⊢
    clear hL
    rintro e w2 ⟨v2, rfl, ho2, g2⟩
    obtain ⟨a2, c2, rfl⟩ := bs_len (Sl.of_own ho2)
    have hz2 := g1.size
    have kj := join_any (vput t1) L _ _ w2 ((Sl.of_own HO1.out).grew g2) (Sl.of_own ho2) (by have := HVT.out; omega)
    have KJ := Lib.hid kj
    clear ho2 kj
    go_wp2_with fail
    refine (KJ.out).mono ?_
    rintro e w3 ⟨v3, rfl, ho3, g3⟩
    obtain ⟨a3, n3, c3, rfl, hn3⟩ := bs_shape (Sl.of_own ho3)
    have hz3 := g2.size
    have HO3 := Lib.hid ho3
    clear ho3
    go_wp2
    go_ret
    rw [HL.out]
    exact ⟨_, rfl, own_mono HO3.out (by have := GW.out.size; omega), ((GW.out.trans g1).trans g2).trans g3⟩
  · go_wp2_with fail
    refine (rfix_any (n % 4294967296) 4 (by omega) (by omega) _).mono ?_
    rintro e w2 ⟨v2, rfl, ho2, g2⟩
    obtain ⟨a2, c2, rfl⟩ := bs_len (Sl.of_own ho2)
    have hz2 := g1.size
    have kj := join_any (vput t1) (fixB 4 (n % 4294967296)) _ _ w2 ((Sl.of_own HO1.out).grew g2) (Sl.of_own ho2) (by have := HVT.out; rw [fixB_length]; omega)
    have KJ := Lib.hid kj
    clear ho2 kj
    go_wp2_with fail
    refine (KJ.out).mono ?_
    rintro e w3 ⟨v3, rfl, ho3, g3⟩
    obtain ⟨a3, n3, c3, rfl, hn3⟩ := bs_shape (Sl.of_own ho3)
    have hz3 := g2.size
    have HO3 := Lib.hid ho3
    clear ho3
    go_wp2
    go_ret
    exact ⟨_, rfl, own_mono HO3.out (by have := GW.out.size; omega), ((GW.out.trans g1).trans g2).trans g3⟩
end Go.Proofs.YtbjoohafgkodcaaGreat
namespace Go.Proofs.YtbjoohafgkodcaaGreat
open Go Go.RowKit Go.Shelf
attribute [local go_sem] Oper.semAt_some

theorem putF_len {x : Fld} (hx : x.ok) : (putF x).1.length ≤ 8212 := by
  by_cases h : (putF x).2 = 0
  · obtain ⟨h1, h2, h3⟩ := putF_ok h
    obtain ⟨t1, t2, t3, t4⟩ := tmake_ok h1
    rw [h3]
    have := vput_le10 (tmake (fNum x) (fWire x)).1 t4
    have hv : (valB x).length ≤ 8202 := by
      by_cases h5 : fWire x = 2
      · exact valB_len hx (h2 h5)
      · obtain ⟨-, -, -, hn⟩ := hx
        unfold valB
        rcases wireB_or t3 with e | e | e | e
        · rw [if_pos e]; have := vput_le10 (fN x) hn; omega
        · rw [if_neg (by omega), if_pos e, fixB_length]; omega
        · exact absurd e h5
        · rw [if_neg (by omega), if_neg (by omega), if_pos e, fixB_length]; omega
    rw [List.length_append]; omega
  · unfold putF at h ⊢
    by_cases h1 : (tmake (fNum x) (fWire x)).2 ≠ 0
    · rw [if_pos h1]; simp
    rw [if_neg h1] at h ⊢
    by_cases h2 : fWire x = 2 ∧ 8192 < (fB x).length
    · rw [if_pos h2]; simp
    · rw [if_neg h2] at h; exact absurd rfl h
set_option maxRecDepth 100000 in
set_option maxHeartbeats 4000000 in
theorem skPut_any (A : List FFV) (v : Value) (w : World) (h : FlR w v A) (hok : ∀ p ∈ A, p.1.ok ∧ (fB p.1).length ≤ 100000000) (hA : A.length ≤ 1000000) :
    Calls Tryz.prog 128 #[v] w fun e w' => ∃ v', e = .returned (.tuple #[v', faultV (putsF 0 (A.map (·.1))).2.1 (putsF 0 (A.map (·.1))).2.2]) ∧ OwnB w' w.heap.size v' (putsF 0 (A.map (·.1))).1 ∧ Grew w w' := by
  obtain ⟨a, c, rfl, h1, h2, -, h4⟩ := h.1.open
  unfold maxLen at h2
  have ga := grew_alloc w (.cells #[.int .i64 0, .int .i64 0] 32)
  have k0 := Blk.new w 32 #[.int .i64 0, .int .i64 0]
  have HC := Lib.hid h
  have H4 := Lib.hid h4
  have HOK := Lib.hid hok
  clear h h4 hok
  go_enter Tryz.func128, Tryz.ntmps128
  go_wp2
  go_loopw [4, 11] (fun vo i wr => ∃ (k : Nat) (pre : List UInt8), k ≤ A.length ∧ i = .int .i64 k ∧ pre.length ≤ k * 8212 ∧ OwnB wr w.heap.size vo pre ∧ Blk wr w.heap.size 32 #[.int .i64 0, .int .i64 0] ∧ Grew w wr ∧ RowKit.Hid (putsF 0 (A.map (·.1)) = joinB pre (putsF k ((A.map (·.1)).drop k)))) (fun _ i _ => A.length - (intOf i).toNat)
  case atStart => exact ⟨0, [], Nat.zero_le _, rfl, Nat.zero_le _, ownB_nil _ _, k0, ga, Lib.hid (by rw [List.drop_zero]; exact (joinB_nil 0 _).symm)⟩
  case round =>
    obtain ⟨k, pre, hk, rfl, hpl, ho, hF, hG, hJ⟩ := hrel
    obtain ⟨a9, n9, c9, rfl, hn9⟩ := bs_shape (Sl.of_own ho)
    have HO := Lib.hid ho
    have HPL := Lib.hid hpl
    clear ho hpl
    by_cases hlt : k < A.length
    · obtain ⟨b, o, rfl, -⟩ := H4.out (by omega)
      obtain ⟨x0, x1, x2, x3, x4, x5⟩ := fl_cells (HC.out.grew hG) k hlt
      have hokk := HOK.out _ (List.getElem_mem hlt)
      have hdr : (A.map (·.1)).drop k = A[k].1 :: (A.map (·.1)).drop (k + 1) := by
        rw [List.drop_eq_getElem_cons (by rw [List.length_map]; exact hlt), List.getElem_map]
      have hJ2 := hJ.out
      rw [hdr] at hJ2
      obtain ⟨⟨X, xv⟩, hr⟩ : ∃ r, r = A[k] := ⟨_, rfl⟩
      rw [← hr] at x0 x1 x2 x3 x4 x5 hokk hJ2
      simp only at x0 x1 x2 x3 x4 x5 hokk hJ2
      obtain ⟨xa, xn, xc, rfl, hxn⟩ := bs_shape x5
      have gb := grew_alloc wr (.cells #[.int .i64 X.1, .int .u8 (X.2.1 : Nat), .int .u64 (X.2.2.1 : Nat), .slice xa xn xc, .int .i64 X.2.2.2.2] 101)
      have KP := Lib.hid (skput_any X _ _ hokk.1 (x5.grew gb) hokk.2)
      have HL := Lib.hid (putF_len hokk.1)
      have z1 : (k : Int) < (A.length : Int) := by omega
      have z0 : (0 : Int) ≤ (k : Int) := by omega
      have hF2 := hF.grew gb
      have hwz := hG.size
      clear hdr hr x5 hokk hJ hF
      go_wp2_with fail
      refine KP.out.mono ?_
      obtain ⟨R, hR⟩ : ∃ R, R = putF X := ⟨_, rfl⟩
      have HR := Lib.hid hR
      rw [← hR]
      rintro e w2 ⟨v2, rfl, ho2, g2⟩
      obtain ⟨b9, m9, d9, rfl, hm9⟩ := bs_shape (Sl.of_own ho2)
      have hF3 := hF2.grew g2
      have G2 := (hG.trans gb).trans g2
      have HO2 := Lib.hid ho2
      have HLR := Lib.hid (show R.1.length ≤ 8212 by rw [HR.out]; exact HL.out)
      clear hR ho2 x0 x1 x2 x3 x4 hF2
      by_cases he : R.2 ≠ 0
      · have hne : ((R.2 : Int) != 0) = true := by simp; omega
        rw [joinB_bad _ (by rw [← HR.out]; exact he), ← HR.out] at hJ2
        have HJ2 := Lib.hid hJ2
        obtain ⟨q0, q1, q2, q3⟩ := cells_of hF3
        clear he hJ2
        go_wp2
        have r1 := (hF3.set 0 (.int .i64 (R.2 : Nat))).set 1 (.int .i64 k)
        refine bodyPost_ret (results_tc rfl _ _ ⟨w.heap.size, 0, none⟩ _ _ rfl rfl (loadVar_fault _ _ _ rfl r1)) rfl ?_
        rw [HJ2.out]
        exact ⟨_, rfl, ownB_nil _ _, grew_set (grew_set G2 (Nat.le_refl _) _) (Nat.le_refl _) _⟩
      · have hne : ((R.2 : Int) != 0) = false := by simp; omega
        rw [joinB_step _ (by rw [← HR.out]; omega), ← HR.out] at hJ2
        have HJ2 := Lib.hid hJ2
        have hO3 := own_grew (own_grew HO.out gb) g2
        have HO3 := Lib.hid hO3
        clear he hJ2 hO3
        go_wp2_with (at_builtin; refine wpList_push2 rfl _ _ rfl w.heap.size _ pre rfl HO3.out _ rfl R.1 (Sl.of_own HO2.out) (by have := HPL.out; have := HLR.out; omega) G2.size ?_; intro v' w3 hown3 hB3 hgb _)
        refine ⟨⟨k + 1, pre ++ R.1, by omega, by go_num, by have := HPL.out; have := HLR.out; rw [List.length_append]; omega, hown3, hF3.kept hgb (blk_ne_row hF3 HO3.out (by decide)), Below.trans G2 hB3, HJ2⟩, ?_⟩
        simp [intOf]; omega
    · obtain rfl : k = A.length := by omega
      have hJ2 := hJ.out
      rw [List.drop_of_length_le (by rw [List.length_map]; exact Nat.le_refl _), joinB_end] at hJ2
      have HJ2 := Lib.hid hJ2
      obtain ⟨q0, q1, q2, q3⟩ := cells_of hF
      clear hJ hJ2
      go_wp2
      have r1 := (hF.set 0 (.int .i64 0)).set 1 (.int .i64 0)
      have ho9 := own_set (own_set HO.out ⟨w.heap.size, 0, none⟩ (.int .i64 0) (fun e => blk_ne_row hF HO.out (by decide) e.symm)) ⟨w.heap.size, 1, none⟩ (.int .i64 0) (fun e => blk_ne_row hF HO.out (by decide) e.symm)
      refine bodyPost_ret (results_tc rfl _ _ ⟨w.heap.size, 0, none⟩ _ _ rfl rfl (loadVar_fault _ _ _ rfl r1)) rfl ?_
      rw [HJ2.out]
      exact ⟨_, rfl, ho9, grew_set (grew_set hG (Nat.le_refl _) _) (Nat.le_refl _) _⟩
end Go.Proofs.YtbjoohafgkodcaaGreat
