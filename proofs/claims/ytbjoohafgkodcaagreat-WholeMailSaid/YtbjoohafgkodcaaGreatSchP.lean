/- Package schema: Wire, Most, Word, Kind; the reference's Wire, Most, Words; the law's sort: contracts. ; Package schema: Of, Find, Kinds: contracts. -/
import Derived.Test.YtbjoohafgkodcaaGreatSch
namespace Go.Proofs.YtbjoohafgkodcaaGreat
open Go Go.RowKit Go.Shelf
attribute [local go_sem] Oper.semAt_some

theorem specsV_append (l m : List Row) : specsV (l ++ m) = specsV l ++ specsV m := by simp [specsV]
theorem specsV_one (l : List Row) : ∀ u ∈ specsV l, u.oneCell' = true := by
  intro u hu
  obtain ⟨r, _, hr⟩ := List.mem_flatMap.1 hu
  simp only [specV, List.mem_cons, List.not_mem_nil, or_false] at hr
  rcases hr with rfl | rfl | rfl <;> rfl
theorem wpListIn_pushS {F : Fence} {n : Nat} {W : World} {ops : Array Oper} {rest : List Oper} {o : Oper} {a : Act} {Q : Exit → Act → World → Prop} (hgd : o.guard = none) (s x : Operand)
    (ho : o.op = .call { callee := .builtin .append, args := #[s, x], argTypes := #[77, 77] })
    (base : Nat) (v : Value) (l : List Row) (hs : a.eval s = v) (hown : OwnS W base v l) (xv : Value) (hx : a.eval x = xv) (m : List Row) (hsl : Ss W xv m)
    (hlen : l.length + m.length ≤ 1000000) (hbase : base ≤ W.heap.size)
    (h : ∀ v' w', OwnS w' base v' (l ++ m) → Below base W w' → W.grownBy w' v.ownBlock → wpListIn F n Tryz.prog ops Q rest (a.put o.dst v') w') : wpListIn F n Tryz.prog ops Q (o :: rest) a W := by
  obtain ⟨i0, hi, hz0, hz1, hz2⟩ := info_parts info_spec
  exact wpListIn_app hgd s x 77 ho base 82 i0 _ 3 24 Tryz.underlying77 hi hz0 hz1 hz2 rfl (by decide) v l.length (specsV l) hs hown xv m.length (specsV m) hx hsl (specsV_one m) (by unfold maxLen; omega) (by omega) hbase
    fun v' w' h1 h2 => h v' w' (by rw [OwnS, specsV_append, List.length_append]; exact h1) (grownBy_below h2 hown hbase) h2
theorem wpList_pushS {W : World} {ops : Array Oper} {rest : List Oper} {o : Oper} {a : Act} {Q : Exit → Act → World → Prop} (hgd : o.guard = none) (s x : Operand)
    (ho : o.op = .call { callee := .builtin .append, args := #[s, x], argTypes := #[77, 77] })
    (base : Nat) (v : Value) (l : List Row) (hs : a.eval s = v) (hown : OwnS W base v l) (xv : Value) (hx : a.eval x = xv) (m : List Row) (hsl : Ss W xv m)
    (hlen : l.length + m.length ≤ 1000000) (hbase : base ≤ W.heap.size)
    (h : ∀ v' w', OwnS w' base v' (l ++ m) → Below base W w' → W.grownBy w' v.ownBlock → wpList Tryz.prog ops Q rest (a.put o.dst v') w') : wpList Tryz.prog ops Q (o :: rest) a W := by
  obtain ⟨i0, hi, hz0, hz1, hz2⟩ := info_parts info_spec
  exact wpList_app hgd s x 77 ho base 82 i0 _ 3 24 Tryz.underlying77 hi hz0 hz1 hz2 rfl (by decide) v l.length (specsV l) hs hown xv m.length (specsV m) hx hsl (specsV_one m) (by unfold maxLen; omega) (by omega) hbase
    fun v' w' h1 h2 => h v' w' (by rw [OwnS, specsV_append, List.length_append]; exact h1) (grownBy_below h2 hown hbase) h2
/-- what a round of Of leaves -/
def OfI (kind : Nat) (w : World) (pre : List Row) (W : World) : Prop := ∃ v, Blk W (w.heap.size + 1) 77 #[v] ∧ OwnS W w.heap.size v (ofKind kind pre) ∧ Blk W w.heap.size 5 #[.int .u8 kind] ∧ Grew w W
theorem OfI.grew {kind : Nat} {w : World} {pre : List Row} {A B : World} (h : OfI kind w pre A) (e : Grew A B) : OfI kind w pre B := by
  obtain ⟨v, h1, h2, h3, h4⟩ := h
  exact ⟨v, h1.grew e, own_grew h2 e, h3.grew e, Grew.trans h4 e⟩
theorem OfI.ck {kind : Nat} {w : World} {pre : List Row} {n : Nat} {A B : World} (h : OfI kind w pre A) (e : CK n A B) (hn : w.heap.size ≤ n) : OfI kind w pre B := by
  obtain ⟨v, h1, h2, h3, h4⟩ := h
  exact ⟨v, e.blk h1, e.own h2, e.blk h3, e.below h4 hn⟩
theorem ss_one (W : World) (r : Row) : Sl (W.alloc (.cells (specV r).toArray 82)) (.slice (some ⟨W.heap.size, 0, none⟩) 1 1) 1 3 (specV r) := by
  have := Sl.lit W 82 (0, 0) (specV r).toArray 1 3 rfl (by unfold maxLen; omega)
  simpa using this

set_option maxRecDepth 100000 in
set_option maxHeartbeats 2000000 in
theorem of_any (kind : Nat) (ver : Int) (w : World) : Calls Tryz.prog 79 #[.int .u8 kind, .int .i64 ver] w fun e w' =>
    ∃ v, e = .returned (.tuple #[v, .bool (decide (0 < (ofKind kind (rowsIn ver)).length))]) ∧ OwnS w' w.heap.size v (ofKind kind (rowsIn ver)) ∧ Grew w w' := by
  refine (callsIn_wide (n := 0)).1 (callsIn_of_wp_marks Tryz.func79 rfl trivial ?_ rfl)
  simp only [Tryz.ntmps79, List.size_toArray, List.length_cons, List.length_nil, Nat.reduceAdd, Nat.reduceSub, Array.replicate_succ, Array.replicate_zero, List.push_toArray, List.append_toArray, List.nil_append, List.cons_append]
  gi_wp2_with (gi_at_call 100; refine (callsIn_wide.2 (each_any _ _)).mono ?_; rintro e w1 ⟨rfl, rfl⟩)
  refine wpIn_iterB (gf := 124) (lb := #[.pointer (some ⟨w.heap.size + 1 + 1, 0, none⟩)]) rfl (enters_of Tryz.func124 (by kernel_rfl) rfl)
    (each_iter ver (w.heap.size + 1 + 1) _ (Blk.at (by simp))) (fun A B e => keepsOthers_grew e) (fun A B C h1 h2 => h1.ck h2) (fun _ => rfl)
    (OfI kind w) (fun _ _ _ => False) (fun pre A B h e => h.grew e) (fun pre A B h hc => h.ck hc (by simp; omega)) (fun _ _ _ _ h _ => h) (fun _ _ _ _ h _ => h)
    ⟨_, (Blk.new2 _ _ _ _).alloc _, World.ownsRow_nil _ _ _ _, ((Blk.new _ _ _).alloc _).alloc _, (((Below.refl _ _).alloc (Nat.le_refl _) _).alloc (by simp) _).alloc (by simp; omega) _⟩ ?round ?done ?stop
  case stop => rintro c pre W hs hf hd; exact hf.elim
  case round =>
    rintro lp pre ⟨kd, nm, ty, sl, si⟩ W hi hok
    have hga := grew_alloc W (.cells #[.int .i64 nm, .int .i64 ty, .int .i64 sl] 82)
    have hkeep : ∀ W2, CK (((w.alloc (.cells #[.int .u8 kind] 5)).alloc (.cells #[.slice none 0 0] 77)).alloc (.cells #[.int .i64 ver] 3)).heap.size (W.alloc (.cells #[.int .i64 nm, .int .i64 ty, .int .i64 sl] 82)) W2 → KeepB (w.heap.size + 1 + 1) 3 W W2 := fun W2 hck cs hc => hck.blk (hc.grew hga)
    simp only [encRow]
    gi_wp2
    refine ⟨keepsOthers_grew hga, fun h => h.grew hga, ?_⟩
    rintro W2 hck hsz ⟨v, h1, h2, h3, h4⟩
    have hs := hck.blk (Blk.new W 82 #[.int .i64 nm, .int .i64 ty, .int .i64 sl])
    replace hkeep := hkeep W2 hck
    have hlen := rowsIn_len ver
    have hlen2 : (ofKind kind pre).length ≤ 40 := by
      have := List.length_filter_le (fun r : Row => r.1 == kind) pre
      have := hok.length_le
      simp at this
      unfold ofKind; omega
    clear hi hok hlen hga hck hsz
    have c3 := h3.cell 0
    simp only [List.getElem?_toArray, List.getElem?_cons_zero] at c3
    have c1 := h1.cell 0
    simp only [List.getElem?_toArray, List.getElem?_cons_zero] at c1
    by_cases hk : kd = kind
    · subst hk
      have e : ofKind kd (pre ++ [(kd, nm, ty, sl, si)]) = ofKind kd pre ++ [(kd, nm, ty, sl, si)] := by simp [ofKind]
      have f1 := h1.frozen 0
      have s0 := hs.cell 0
      have s1 := hs.cell 1
      have s2 := hs.cell 2
      simp at s0 s1 s2
      have hne : some (w.heap.size + 1) ≠ v.ownBlock := blk_ne_row h1 h2 (by decide)
      have hne3 : some w.heap.size ≠ v.ownBlock := blk_ne_row h3 h2 (by decide)
      clear hs
      gi_wp2_with (gi_at_builtin; refine wpListIn_pushS rfl _ _ rfl w.heap.size v _ rfl (own_grew h2 (grew_alloc _ _)) _ rfl [(kd, nm, ty, sl, si)] (ss_one W2 (kd, nm, ty, sl, si)) (by simp; omega) (by have := h4.size; simp; omega) ?_; intro v' w1 hown1 hB1 hgb; obtain ⟨a', c', rfl, -⟩ := (Sl.of_own hown1).open; have hb1 := (h1.alloc _).kept hgb hne; have f1' := hb1.frozen 0; have c1' := hb1.cell 0; simp only [List.getElem?_toArray, List.getElem?_cons_zero] at c1')
      have hsB : (w.heap.size + 1) ≠ w.heap.size + 1 + 1 := by omega
      refine ⟨((KeepsOthers.alloc _ _).trans (keepsOthers_app (own_grew h2 (grew_alloc _ _)) hgb)).trans (KeepsOthers.setCell _ _ _), ?_, _, hb1.set 0 _, ?_, ((h3.alloc _).kept hgb hne3).other _ _ (by simp), ?_⟩
      · intro cs hc
        have hc2 := hkeep cs hc
        exact ((hc2.alloc _).kept hgb (blk_ne_row hc2 h2 (by decide))).other _ _ (by simp)
      · rw [e]
        have := own_set hown1 ⟨w.heap.size + 1, 0, none⟩ (.slice a' (ofKind kd pre ++ [(kd, nm, ty, sl, si)]).length c') (fun e' => blk_ne_row hb1 hown1 (by decide) e'.symm)
        simp only [OwnS, List.length_append, List.length_cons, List.length_nil, Nat.zero_add] at this ⊢
        exact this
      · exact grew_set (((h4.alloc h4.size _).trans (hB1.mono (by simp)))) (by omega) _
    · have e : ofKind kind (pre ++ [(kd, nm, ty, sl, si)]) = ofKind kind pre := by simp [ofKind, hk]
      have hk2 : ((kd : Int) == (kind : Int)) = false := by simp; omega
      gi_wp2
      exact ⟨KeepsOthers.refl _, hkeep, v, h1, by rw [e]; exact h2, h3, h4⟩
  case done =>
    rintro xs W rfl ⟨v, h1, h2, h3, h4⟩ hD
    have c1 := h1.cell 0
    simp only [List.getElem?_toArray, List.getElem?_cons_zero] at c1
    obtain ⟨a, c, rfl, -⟩ := (Sl.of_own h2).open
    gi_wp2
    refine wpIn_region_quiet open_wide ?_ (by kernel_rfl) (by kernel_rfl) (by kernel_rfl) ?_
    · rintro ⟨_, _, h⟩
      obtain ⟨_, h, _⟩ := h
      cases h
    · repeat (quiet_step (fail))
      refine wpQuiet_nil ?_
      rintro _ ⟨nq, rfl⟩
      gi_wp2
      have hg5 : Grew W (W.drewN nq) := Drew.grew ⟨nq, rfl⟩
      have hD2 : (W.drewN nq).heap[w.heap.size + 1 + 1 + 1]? = some (.deferred (some [])) := by simpa using hD
      have hck := CK.putObj (w.heap.size + 1 + 1 + 1) (W.drewN nq) _ _ (.deferred none) hD2 rfl (Nat.le_refl _)
      refine ⟨by simp, .inl ⟨_, _, rfl, run_takeDeferred hD2, ?_⟩⟩
      exact ⟨_, results_tmp2 rfl _ _ _, _, rfl, hck.own (own_grew h2 hg5), Below.trans (Grew.trans h4 hg5) (hck.toBelow (by omega))⟩
end Go.Proofs.YtbjoohafgkodcaaGreat
namespace Go.Proofs.YtbjoohafgkodcaaGreat
open Go Go.RowKit Go.Shelf

/-- a type's wire type -/
def wireV (t : Int) : Int × Bool :=
  if t = 1 then (0, true) else if t = 2 then (0, true) else if t = 3 then (0, true) else if t = 4 then (0, true) else if t = 5 then (5, true) else if t = 6 then (1, true)
  else if t = 7 then (2, true) else if t = 8 then (2, true) else if t = 9 then (2, true) else if t = 10 then (2, true) else (0, false)
set_option maxHeartbeats 1000000 in
theorem wire_any (t : Int) (w : World) : Calls Tryz.prog 106 #[.int .i64 t] w fun e w' => e = .returned (.tuple #[.int .u8 (wireV t).1, .bool (wireV t).2]) ∧ w = w' := by
  go_enter Tryz.func106, Tryz.ntmps106
  by_cases h1 : t = 1
  · subst h1; go_wp2; go_ret2; exact ⟨rfl, rfl⟩
  by_cases h2 : t = 2
  · subst h2; go_wp2; go_ret2; exact ⟨rfl, rfl⟩
  by_cases h3 : t = 3
  · subst h3; go_wp2; go_ret2; exact ⟨rfl, rfl⟩
  by_cases h4 : t = 4
  · subst h4; go_wp2; go_ret2; exact ⟨rfl, rfl⟩
  by_cases h5 : t = 5
  · subst h5; go_wp2; go_ret2; exact ⟨rfl, rfl⟩
  by_cases h6 : t = 6
  · subst h6; go_wp2; go_ret2; exact ⟨rfl, rfl⟩
  by_cases h7 : t = 7
  · subst h7; go_wp2; go_ret2; exact ⟨rfl, rfl⟩
  by_cases h8 : t = 8
  · subst h8; go_wp2; go_ret2; exact ⟨rfl, rfl⟩
  by_cases h9 : t = 9
  · subst h9; go_wp2; go_ret2; exact ⟨rfl, rfl⟩
  by_cases h10 : t = 10
  · subst h10; go_wp2; go_ret2; exact ⟨rfl, rfl⟩
  have e1 : (t == 1) = false := by simpa using h1
  have e2 : (t == 2) = false := by simpa using h2
  have e3 : (t == 3) = false := by simpa using h3
  have e4 : (t == 4) = false := by simpa using h4
  have e5 : (t == 5) = false := by simpa using h5
  have e6 : (t == 6) = false := by simpa using h6
  have e7 : (t == 7) = false := by simpa using h7
  have e8 : (t == 8) = false := by simpa using h8
  have e9 : (t == 9) = false := by simpa using h9
  have e10 : (t == 10) = false := by simpa using h10
  have hw : wireV t = (0, false) := by simp [wireV, h1, h2, h3, h4, h5, h6, h7, h8, h9, h10]
  have HW := Lib.hid hw
  clear hw h1 h2 h3 h4 h5 h6 h7 h8 h9 h10
  go_wp2
  go_ret2
  exact ⟨by rw [HW.out]; rfl, rfl⟩

def mostV (t : Int) : Int := if t = 7 then 64 else if t = 10 then 64 else if t = 8 then 4096 else if t = 9 then 7000 else 0
set_option maxHeartbeats 1000000 in
theorem most_any (t : Int) (w : World) : Calls Tryz.prog 103 #[.int .i64 t] w fun e w' => e = .returned (.int .i64 (mostV t)) ∧ w = w' := by
  go_enter Tryz.func103, Tryz.ntmps103
  by_cases h7 : t = 7
  · subst h7; go_wp2; go_ret; exact ⟨rfl, rfl⟩
  by_cases h10 : t = 10
  · subst h10; go_wp2; go_ret; exact ⟨rfl, rfl⟩
  by_cases h8 : t = 8
  · subst h8; go_wp2; go_ret; exact ⟨rfl, rfl⟩
  by_cases h9 : t = 9
  · subst h9; go_wp2; go_ret; exact ⟨rfl, rfl⟩
  have e7 : (t == 7) = false := by simpa using h7
  have e8 : (t == 8) = false := by simpa using h8
  have e9 : (t == 9) = false := by simpa using h9
  have e10 : (t == 10) = false := by simpa using h10
  have hw : mostV t = 0 := by simp [mostV, h7, h8, h9, h10]
  have HW := Lib.hid hw
  clear hw h7 h8 h9 h10
  go_wp2
  go_ret
  exact ⟨by rw [HW.out]; rfl, rfl⟩

set_option maxHeartbeats 1000000 in
theorem rmost_any (t : Int) (w : World) : Calls Tryz.prog 74 #[.int .i64 t] w fun e w' => e = .returned (.int .i64 (mostV t)) ∧ w = w' := by
  go_enter Tryz.func74, Tryz.ntmps74
  by_cases h7 : t = 7
  · subst h7; go_wp2; go_ret; exact ⟨rfl, rfl⟩
  by_cases h10 : t = 10
  · subst h10; go_wp2; go_ret; exact ⟨rfl, rfl⟩
  by_cases h8 : t = 8
  · subst h8; go_wp2; go_ret; exact ⟨rfl, rfl⟩
  by_cases h9 : t = 9
  · subst h9; go_wp2; go_ret; exact ⟨rfl, rfl⟩
  have e7 : (t == 7) = false := by simpa using h7
  have e8 : (t == 8) = false := by simpa using h8
  have e9 : (t == 9) = false := by simpa using h9
  have e10 : (t == 10) = false := by simpa using h10
  have hw : mostV t = 0 := by simp [mostV, h7, h8, h9, h10]
  have HW := Lib.hid hw
  clear hw h7 h8 h9 h10
  go_wp2
  go_ret
  exact ⟨by rw [HW.out]; rfl, rfl⟩
def rwireV (t : Int) : Int := if t ≤ 4 then 0 else if t = 5 then 5 else if t = 6 then 1 else 2
set_option maxHeartbeats 1000000 in
theorem rwire8_any (t : Int) (w : World) : Calls Tryz.prog 65 #[.int .i64 t] w fun e w' => e = .returned (.int .u8 (rwireV t)) ∧ w = w' := by
  go_enter Tryz.func65, Tryz.ntmps65
  by_cases h4 : t ≤ 4
  · have hw : rwireV t = 0 := by simp [rwireV, h4]
    have HW := Lib.hid hw
    clear hw
    go_wp2; go_ret; exact ⟨by rw [HW.out]; rfl, rfl⟩
  by_cases h5 : t = 5
  · subst h5; go_wp2; go_ret; exact ⟨rfl, rfl⟩
  by_cases h6 : t = 6
  · subst h6; go_wp2; go_ret; exact ⟨rfl, rfl⟩
  have e5 : (t == 5) = false := by simpa using h5
  have e6 : (t == 6) = false := by simpa using h6
  have hw : rwireV t = 2 := by simp [rwireV, h4, h5, h6]
  have HW := Lib.hid hw
  clear hw h5 h6
  go_wp2
  go_ret
  exact ⟨by rw [HW.out]; rfl, rfl⟩
def sortV (t : Int) : Int := if t ≤ 6 then 0 else if t < 10 then 1 else 2
end Go.Proofs.YtbjoohafgkodcaaGreat
