/- The reference of layer 8: Of, Find, Specs: contracts. ; The reference of layer 8: Rows, Of, Find, Specs: contracts. ; Package schema: Find: contract. -/
import Derived.Test.YtbjoohafgkodcaaGreatSchP
import Derived.Deep.RegionHeld3
namespace Go.Proofs.YtbjoohafgkodcaaGreat
open Go Go.RowKit Go.Shelf
attribute [local go_sem] Oper.semAt_some

def isField (kind : Nat) (num : Int) (r : Row) : Bool := r.1 == kind && (r.2.1 : Int) == num
def foundV : Option Row → Array Value
  | some r => #[.agg (specV r).toArray, .bool true]
  | none => #[.agg #[.int .i64 0, .int .i64 0, .int .i64 0], .bool false]
/-- while Find looks -/
def FindI (kind : Nat) (num : Int) (w : World) (pre : List Row) (W : World) : Prop :=
  pre.find? (isField kind num) = none ∧ Blk W w.heap.size 5 #[.int .u8 kind] ∧ Blk W (w.heap.size + 1) 3 #[.int .i64 num] ∧ Blk W (w.heap.size + 1 + 1) 82 #[.int .i64 0, .int .i64 0, .int .i64 0] ∧ Blk W (w.heap.size + 1 + 1 + 1) 4 #[.bool false] ∧ Grew w W
theorem FindI.grew {kind : Nat} {num : Int} {w : World} {pre : List Row} {A B : World} (h : FindI kind num w pre A) (e : Grew A B) : FindI kind num w pre B := by
  obtain ⟨h0, h1, h2, h3, h4, h5⟩ := h
  exact ⟨h0, h1.grew e, h2.grew e, h3.grew e, h4.grew e, Grew.trans h5 e⟩
theorem FindI.ck {kind : Nat} {num : Int} {w : World} {pre : List Row} {n : Nat} {A B : World} (h : FindI kind num w pre A) (e : CK n A B) (hn : w.heap.size ≤ n) : FindI kind num w pre B := by
  obtain ⟨h0, h1, h2, h3, h4, h5⟩ := h
  exact ⟨h0, e.blk h1, e.blk h2, e.blk h3, e.blk h4, e.below h5 hn⟩
/-- when it has found -/
def FindX (kind : Nat) (num : Int) (w : World) (c : Code) (pre : List Row) (W : World) : Prop :=
  c = .ret ∧ ∃ r, pre.find? (isField kind num) = some r ∧ Blk W (w.heap.size + 1 + 1) 82 (specV r).toArray ∧ Blk W (w.heap.size + 1 + 1 + 1) 4 #[.bool true] ∧ Grew w W
theorem FindX.grew {kind : Nat} {num : Int} {w : World} {c : Code} {pre : List Row} {A B : World} (h : FindX kind num w c pre A) (e : Grew A B) : FindX kind num w c pre B := by
  obtain ⟨h0, r, h1, h2, h3, h4⟩ := h
  exact ⟨h0, r, h1, h2.grew e, h3.grew e, Grew.trans h4 e⟩
theorem FindX.ck {kind : Nat} {num : Int} {w : World} {c : Code} {pre : List Row} {n : Nat} {A B : World} (h : FindX kind num w c pre A) (e : CK n A B) (hn : w.heap.size ≤ n) : FindX kind num w c pre B := by
  obtain ⟨h0, r, h1, h2, h3, h4⟩ := h
  exact ⟨h0, r, h1, e.blk h2, e.blk h3, e.below h4 hn⟩
theorem find_prefix {α : Type} {p : α → Bool} {l m : List α} {r : α} (h : l <+: m) (hf : l.find? p = some r) : m.find? p = some r := by
  obtain ⟨t, rfl⟩ := h
  rw [List.find?_append, hf]; rfl

theorem results_cells2 {P : Program} {fn : Func} {p u : Tmp} {t1 t2 : TypeId} (h : fn.results = #[.cell p t1, .cell u t2]) (tmps : Array Value) (w : World) (a1 a2 : Addr) (v1 v2 : Value)
    (h1 : tmps.getD p undef = .pointer (some a1)) (h2 : tmps.getD u undef = .pointer (some a2)) (l1 : (loadVar t1 a1).run P w = .ok v1 w) (l2 : (loadVar t2 a2).run P w = .ok v2 w) :
    (results fn tmps).run P w = .ok (.tuple #[v1, v2]) w := by
  have h1' : tmps[p]?.getD undef = .pointer (some a1) := by simpa using h1
  have h2' : tmps[u]?.getD undef = .pointer (some a2) := by simpa using h2
  simp [results, h, h1', h2', asAddr, l1, l2]
theorem loadVar_bool (w : World) (b : Nat) (v : Value) (h : Blk w b 4 #[v]) : (loadVar 4 ⟨b, 0, none⟩).run Tryz.prog w = .ok v w := by
  have := h.cell 0
  simp at this
  unfold loadVar
  simp [go_sem, this]
theorem loadVar_spec (w : World) (b : Nat) (cs : Array Value) (hs : cs.size = 3) (h : Blk w b 82 cs) : (loadVar 82 ⟨b, 0, none⟩).run Tryz.prog w = .ok (.agg cs) w :=
  run_loadVar_row w b _ _ cs (0, 0) _ h Tryz.underlying82 rfl (by rw [hs]; kernel_rfl)

set_option maxRecDepth 100000 in
set_option maxHeartbeats 2000000 in
theorem find_any (kind : Nat) (ver num : Int) (w : World) : Calls Tryz.prog 114 #[.int .u8 kind, .int .i64 ver, .int .i64 num] w fun e w' =>
    e = .returned (.tuple (foundV ((rowsIn ver).find? (isField kind num)))) ∧ Grew w w' := by
  refine (callsIn_wide (n := 0)).1 (callsIn_of_wp_marks Tryz.func114 rfl trivial ?_ rfl)
  simp only [Tryz.ntmps114, List.size_toArray, List.length_cons, List.length_nil, Nat.reduceAdd, Nat.reduceSub, Array.replicate_succ, Array.replicate_zero, List.push_toArray, List.append_toArray, List.nil_append, List.cons_append]
  gi_wp2_with (gi_at_call 100; refine (callsIn_wide.2 (each_any _ _)).mono ?_; rintro e w1 ⟨rfl, rfl⟩)
  refine wpIn_iterB (gf := 124) (lb := #[.pointer (some ⟨w.heap.size + 1 + 1 + 1 + 1, 0, none⟩)]) rfl (enters_of Tryz.func124 (by kernel_rfl) rfl)
    (each_iter ver (w.heap.size + 1 + 1 + 1 + 1) _ (Blk.at (by simp))) (fun A B e => keepsOthers_grew e) (fun A B C h1 h2 => h1.ck h2) (fun _ => rfl)
    (FindI kind num w) (FindX kind num w) (fun pre A B h e => h.grew e) (fun pre A B h hc => h.ck hc (by simp; omega)) (fun _ _ _ _ h e => h.grew e) (fun _ _ _ _ h hc => h.ck hc (by simp; omega))
    ⟨rfl, ((((Blk.new _ _ _).alloc _).alloc _).alloc _).alloc _, (((Blk.at (by simp)).alloc _).alloc _).alloc _, ((Blk.at (by simp)).alloc _).alloc _, (Blk.at (by simp)).alloc _, (((((Below.refl _ _).alloc (Nat.le_refl _) _).alloc (by simp) _).alloc (by simp; omega) _).alloc (by simp; omega) _).alloc (by simp; omega) _⟩ ?round ?done ?stop
  case stop =>
    rintro c pre W hs ⟨rfl, r, h1, h2, h3, h4⟩ hD
    have hf := find_prefix hs h1
    have s0 := h2.cell 0
    have s1 := h2.cell 1
    have s2 := h2.cell 2
    have s3 := h3.cell 0
    simp [specV] at s0 s1 s2 s3
    gi_wp2
    simp only [World.size_alloc] at hD ⊢
    have hD2 : W.heap[w.heap.size + 1 + 1 + 1 + 1 + 1]? = some (.deferred (some [])) := hD
    have hck := CK.putObj (w.heap.size + 1 + 1 + 1 + 1 + 1) W _ _ (.deferred none) hD2 rfl (Nat.le_refl _)
    refine ⟨by simp, .inl ⟨_, _, rfl, run_takeDeferred hD, ?_⟩⟩
    refine ⟨_, results_cells2 rfl _ _ _ _ _ _ rfl rfl (loadVar_spec _ _ _ rfl (hck.blk h2)) (loadVar_bool _ _ _ (hck.blk h3)), ?_, Below.trans h4 (hck.toBelow (by omega))⟩
    rw [hf]; rfl
  case round =>
    rintro lp pre ⟨kd, nm, ty, sl, si⟩ W hi hok
    have hga := grew_alloc W (.cells #[.int .i64 nm, .int .i64 ty, .int .i64 sl] 82)
    simp only [encRow]
    gi_wp2
    refine ⟨keepsOthers_grew hga, fun h => h.grew hga, ?_⟩
    rintro W2 hck hsz ⟨h0, h1, h2, h3, h4, h5⟩
    have hs := hck.blk (Blk.new W 82 #[.int .i64 nm, .int .i64 ty, .int .i64 sl])
    have hkeep : KeepB (w.heap.size + 1 + 1 + 1 + 1) 3 W W2 := fun cs hc => hck.blk (hc.grew hga)
    clear hi hok hga hck hsz
    have c1 := h1.cell 0
    have c2 := h2.cell 0
    simp only [List.getElem?_toArray, List.getElem?_cons_zero] at c1 c2
    have c3 := h3.cell 0
    have c3' := h3.cell 1
    have c3'' := h3.cell 2
    have c4 := h4.cell 0
    have s0 := hs.cell 0
    have s1 := hs.cell 1
    have s2 := hs.cell 2
    simp at s0 s1 s2 c3 c3' c3'' c4
    have f0 := h3.frozen 0
    have f1 := h3.frozen 1
    have f2 := h3.frozen 2
    have f4 := h4.frozen 0
    by_cases hk : kd = kind
    · subst hk
      by_cases hn : (nm : Int) = num
      · subst hn
        have e : (pre ++ [(kd, nm, ty, sl, si)]).find? (isField kd nm) = some (kd, nm, ty, sl, si) := by rw [List.find?_append, h0]; simp [isField]
        gi_wp2
        refine ⟨(((KeepsOthers.setCell _ _ _).trans (KeepsOthers.setCell _ _ _)).trans (KeepsOthers.setCell _ _ _)).trans (KeepsOthers.setCell _ _ _), rfl, _, e, ?_, ?_, ?_⟩
        · exact (((h3.set 0 _).set 1 _).set 2 _).other _ _ (by simp)
        · exact (((h4.other _ _ (by simp)).other _ _ (by simp)).other _ _ (by simp)).set 0 _
        · exact grew_set (grew_set (grew_set (grew_set h5 (by omega) _) (by omega) _) (by omega) _) (by omega) _
      · have e : (pre ++ [(kd, nm, ty, sl, si)]).find? (isField kd num) = none := by rw [List.find?_append, h0]; simp [isField, hn]
        have hn2 : ((nm : Int) == num) = false := by simpa using hn
        gi_wp2
        exact ⟨KeepsOthers.refl _, hkeep, e, h1, h2, h3, h4, h5⟩
    · have e : (pre ++ [(kd, nm, ty, sl, si)]).find? (isField kind num) = none := by rw [List.find?_append, h0]; simp [isField, hk]
      have hk2 : ((kd : Int) == (kind : Int)) = false := by simp; omega
      gi_wp2
      exact ⟨KeepsOthers.refl _, hkeep, e, h1, h2, h3, h4, h5⟩
  case done =>
    rintro xs W rfl ⟨h0, h1, h2, h3, h4, h5⟩ hD
    have f0 := h3.frozen 0
    have f1 := h3.frozen 1
    have f2 := h3.frozen 2
    have f4 := h4.frozen 0
    have c3 := h3.cell 0
    have c3' := h3.cell 1
    have c3'' := h3.cell 2
    have c4 := h4.cell 0
    simp at c3 c3' c3'' c4
    gi_wp2
    simp only [World.size_alloc] at hD ⊢
    have b1 := (((h3.set 0 (.int .i64 0)).set 1 (.int .i64 0)).set 2 (.int .i64 0)).other ⟨w.heap.size + 1 + 1 + 1, 0, none⟩ (.bool false) (by simp)
    have b2 := (((h4.other ⟨w.heap.size + 1 + 1, 0, none⟩ (.int .i64 0) (by simp)).other ⟨w.heap.size + 1 + 1, 1, none⟩ (.int .i64 0) (by simp)).other ⟨w.heap.size + 1 + 1, 2, none⟩ (.int .i64 0) (by simp)).set 0 (.bool false)
    have g1 := grew_set (grew_set (grew_set (grew_set h5 (b := w.heap.size + 1 + 1) (j := 0) (by omega) (.int .i64 0)) (b := w.heap.size + 1 + 1) (j := 1) (by omega) (.int .i64 0)) (b := w.heap.size + 1 + 1) (j := 2) (by omega) (.int .i64 0)) (b := w.heap.size + 1 + 1 + 1) (j := 0) (by omega) (.bool false)
    have hD2 : W.heap[w.heap.size + 1 + 1 + 1 + 1 + 1]? = some (.deferred (some [])) := hD
    generalize hW' : World.setCell _ _ _ = W' at b1 b2 g1 ⊢
    have hD3 : W'.heap[w.heap.size + 1 + 1 + 1 + 1 + 1]? = some (.deferred (some [])) := by
      rw [← hW']
      rw [heap_setCell_other _ _ _ _ (by simp; omega), heap_setCell_other _ _ _ _ (by simp; omega), heap_setCell_other _ _ _ _ (by simp; omega), heap_setCell_other _ _ _ _ (by simp; omega)]
      exact hD2
    have hck := CK.putObj (w.heap.size + 1 + 1 + 1 + 1 + 1) W' _ _ (.deferred none) hD3 rfl (Nat.le_refl _)
    refine ⟨by simp, .inl ⟨_, _, rfl, run_takeDeferred hD3, ?_⟩⟩
    refine ⟨_, results_cells2 rfl _ _ _ _ _ _ rfl rfl (loadVar_spec _ _ _ rfl (hck.blk b1)) (loadVar_bool _ _ _ (hck.blk b2)), ?_, Below.trans g1 (hck.toBelow (by omega))⟩
    rw [h0]; rfl
end Go.Proofs.YtbjoohafgkodcaaGreat
namespace Go.Proofs.YtbjoohafgkodcaaGreat
open Go Go.RowKit Go.Shelf

def rrowV (r : Row) : List Value := [.int .i64 r.2.1, .int .i64 r.2.2.1, .int .i64 r.2.2.2.1, .int .i64 r.2.2.2.2]
def rrowsV (l : List Row) : List Value := l.flatMap rrowV
abbrev Rs (w : World) (v : Value) (l : List Row) : Prop := Sl w v l.length 4 (rrowsV l)
theorem rs_lit (w : World) (l : List Row) (cs : Array Value) (n : Nat) (hn : l.length = n) (hc : cs = (rrowsV l).toArray) (hs : cs.size = n * 4) (hm : n ≤ 1000) : Rs (w.alloc (.cells cs 115)) (.slice (some ⟨w.heap.size, 0, none⟩) n n) l := by
  subst hn
  have := Sl.lit w 115 (0, 0) cs l.length 4 hs (by unfold maxLen; omega)
  rw [hc] at this ⊢
  exact this

set_option maxRecDepth 10000 in
set_option maxHeartbeats 4000000 in
theorem rrows_any (k : Nat) (w : World) : Calls Tryz.prog 62 #[.int .u8 k] w fun e w' => ∃ v, e = .returned v ∧ Rs w' v (ofKind k rowsAll) ∧ Grew w w' := by
  by_cases h1 : k = 1
  · subst h1
    go_enter Tryz.func62, Tryz.ntmps62
    go_wp2
    go_ret
    exact ⟨_, rfl, rs_lit w (ofKind 1 rowsAll) _ 3 (by kernel_rfl) (by kernel_rfl) (by kernel_rfl) (by omega), grew_alloc _ _⟩
  by_cases h2 : k = 2
  · subst h2
    go_enter Tryz.func62, Tryz.ntmps62
    go_wp2
    go_ret
    exact ⟨_, rfl, rs_lit w (ofKind 2 rowsAll) _ 3 (by kernel_rfl) (by kernel_rfl) (by kernel_rfl) (by omega), grew_alloc _ _⟩
  by_cases h3 : k = 3
  · subst h3
    go_enter Tryz.func62, Tryz.ntmps62
    go_wp2
    go_ret
    exact ⟨_, rfl, rs_lit w (ofKind 3 rowsAll) _ 3 (by kernel_rfl) (by kernel_rfl) (by kernel_rfl) (by omega), grew_alloc _ _⟩
  by_cases h4 : k = 4
  · subst h4
    go_enter Tryz.func62, Tryz.ntmps62
    go_wp2
    go_ret
    exact ⟨_, rfl, rs_lit w (ofKind 4 rowsAll) _ 4 (by kernel_rfl) (by kernel_rfl) (by kernel_rfl) (by omega), grew_alloc _ _⟩
  by_cases h5 : k = 5
  · subst h5
    go_enter Tryz.func62, Tryz.ntmps62
    go_wp2
    go_ret
    exact ⟨_, rfl, rs_lit w (ofKind 5 rowsAll) _ 7 (by kernel_rfl) (by kernel_rfl) (by kernel_rfl) (by omega), grew_alloc _ _⟩
  by_cases h6 : k = 6
  · subst h6
    go_enter Tryz.func62, Tryz.ntmps62
    go_wp2
    go_ret
    exact ⟨_, rfl, rs_lit w (ofKind 6 rowsAll) _ 7 (by kernel_rfl) (by kernel_rfl) (by kernel_rfl) (by omega), grew_alloc _ _⟩
  by_cases h7 : k = 7
  · subst h7
    go_enter Tryz.func62, Tryz.ntmps62
    go_wp2
    go_ret
    exact ⟨_, rfl, rs_lit w (ofKind 7 rowsAll) _ 2 (by kernel_rfl) (by kernel_rfl) (by kernel_rfl) (by omega), grew_alloc _ _⟩
  by_cases h8 : k = 8
  · subst h8
    go_enter Tryz.func62, Tryz.ntmps62
    go_wp2
    go_ret
    exact ⟨_, rfl, rs_lit w (ofKind 8 rowsAll) _ 1 (by kernel_rfl) (by kernel_rfl) (by kernel_rfl) (by omega), grew_alloc _ _⟩
  by_cases h9 : k = 9
  · subst h9
    go_enter Tryz.func62, Tryz.ntmps62
    go_wp2
    go_ret
    exact ⟨_, rfl, rs_lit w (ofKind 9 rowsAll) _ 6 (by kernel_rfl) (by kernel_rfl) (by kernel_rfl) (by omega), grew_alloc _ _⟩
  by_cases h10 : k = 10
  · subst h10
    go_enter Tryz.func62, Tryz.ntmps62
    go_wp2
    go_ret
    exact ⟨_, rfl, rs_lit w (ofKind 10 rowsAll) _ 4 (by kernel_rfl) (by kernel_rfl) (by kernel_rfl) (by omega), grew_alloc _ _⟩
  have hr : ofKind k rowsAll = [] := by
    unfold ofKind
    rw [List.filter_eq_nil_iff]
    intro r hr
    have : r.1 = 1 ∨ r.1 = 2 ∨ r.1 = 3 ∨ r.1 = 4 ∨ r.1 = 5 ∨ r.1 = 6 ∨ r.1 = 7 ∨ r.1 = 8 ∨ r.1 = 9 ∨ r.1 = 10 := by
      revert r; decide
    simp; omega
  have e1 : ((k : Int) == 1) = false := by simp; omega
  have e2 : ((k : Int) == 2) = false := by simp; omega
  have e3 : ((k : Int) == 3) = false := by simp; omega
  have e4 : ((k : Int) == 4) = false := by simp; omega
  have e5 : ((k : Int) == 5) = false := by simp; omega
  have e6 : ((k : Int) == 6) = false := by simp; omega
  have e7 : ((k : Int) == 7) = false := by simp; omega
  have e8 : ((k : Int) == 8) = false := by simp; omega
  have e9 : ((k : Int) == 9) = false := by simp; omega
  have e10 : ((k : Int) == 10) = false := by simp; omega
  rw [hr]
  clear hr h1 h2 h3 h4 h5 h6 h7 h8 h9 h10
  go_enter Tryz.func62, Tryz.ntmps62
  go_wp2
  go_ret
  exact ⟨_, rfl, Sl.nil _ _, Below.refl _ _⟩
end Go.Proofs.YtbjoohafgkodcaaGreat
namespace Go.Proofs.YtbjoohafgkodcaaGreat
open Go Go.RowKit Go.Shelf

/-- a cell of a list of equally long rows -/
theorem flat_get {α : Type} {f : α → List Value} {k : Nat} (hf : ∀ x, (f x).length = k) : ∀ (l : List α) (j : Nat) (hj : j < l.length) (i : Nat), i < k → (l.flatMap f)[j * k + i]? = (f l[j])[i]?
  | [], _, h, _, _ => absurd h (by simp)
  | x :: l, 0, _, i, hi => by
    simp only [List.flatMap_cons, Nat.zero_mul, Nat.zero_add, List.getElem_cons_zero]
    rw [List.getElem?_append_left (by rw [hf]; exact hi)]
  | x :: l, j + 1, h, i, hi => by
    have := flat_get hf l j (by simpa using h) i hi
    simp only [List.flatMap_cons, List.getElem_cons_succ]
    rw [List.getElem?_append_right (by rw [hf, Nat.succ_mul]; omega), hf, show (j + 1) * k + i - k = j * k + i by rw [Nat.succ_mul]; omega]
    exact this
theorem of_comm (k : Nat) (ver : Int) : ofKind k (rowsIn ver) = if ver < 1 ∨ 3 < ver then [] else (ofKind k rowsAll).filter (inV ver) := by
  unfold ofKind rowsIn
  split
  · rfl
  · rw [List.filter_filter, List.filter_filter]; congr 1; funext r; exact Bool.and_comm _ _
theorem ofKind_len (k : Nat) : (ofKind k rowsAll).length ≤ 40 := List.length_filter_le _ _

/-- append of field rows as one step of a region that draws -/
theorem step_pushS {ops : Array Oper} {o : Oper} {a : Act} {W : World} {K : Act → World → Prop} {Q : Exit → Act → World → Prop} {E : Prop} (hgd : o.guard = none) (s x : Operand)
    (ho : o.op = .call { callee := .builtin .append, args := #[s, x], argTypes := #[77, 77] })
    (base : Nat) (v : Value) (l : List Row) (hs : a.eval s = v) (hown : OwnS W base v l) (xv : Value) (hx : a.eval x = xv) (m : List Row) (hsl : Ss W xv m)
    (hlen : l.length + m.length ≤ 1000000) (hbase : base ≤ W.heap.size)
    (h : ∀ v' w', OwnS w' base v' (l ++ m) → Below base W w' → W.grownBy w' v.ownBlock → K (a.put o.dst v') w') :
    if Region.wanted o (yielded ops a.tmps) = true then Oper.wp Tryz.prog o a W K Q else E := by
  have hw : Region.wanted o (yielded ops a.tmps) = true := by simp [Region.wanted, hgd]
  rw [if_pos hw]
  obtain ⟨i0, hi, hz0, hz1, hz2⟩ := info_parts info_spec
  rcases hsl.shape with ⟨rfl, h0, h1⟩ | ⟨ad, cap, rfl, _, _, hl, hc⟩
  · have hrun := run_append_owned_none (P := Tryz.prog) (w := W) base 77 o.type 82 i0 3 Tryz.underlying77 hi v _ _ hown
    obtain rfl : m = [] := List.eq_nil_of_length_eq_zero h0
    unfold Oper.wp
    simp [execOp, ho, resolve, invoke, builtin, hs, hx, hrun, Result.andThen]
    exact h v W (by simpa using hown) (Below.refl _ _) (World.grownBy.refl _ _)
  · obtain ⟨v', w', hrun, r1, r2, _⟩ := run_append_own (P := Tryz.prog) W base 77 o.type 82 i0 _ 3 24 Tryz.underlying77 hi hz0 hz1 hz2 rfl (by decide) v _ _ hown ad _ cap (specsV m) hl hc (specsV_one m) (by unfold maxLen; omega) (by omega) hbase
    unfold Oper.wp
    simp [execOp, ho, resolve, invoke, builtin, hs, hx, hrun, Result.andThen]
    exact h v' w' (by rw [OwnS, specsV_append, List.length_append]; exact r1) (grownBy_below r2 hown hbase) r2

set_option maxRecDepth 10000 in
set_option maxHeartbeats 2000000 in
theorem rof_any (kind : Nat) (ver : Int) (w : World) : Calls Tryz.prog 37 #[.int .u8 kind, .int .i64 ver] w fun e w' => ∃ v, e = .returned v ∧ OwnS w' w.heap.size v (ofKind kind (rowsIn ver)) ∧ Grew w w' := by
  rw [of_comm]
  by_cases hv : ver < 1 ∨ 3 < ver
  · rw [if_pos hv]
    by_cases h1 : ver < 1
    · clear hv
      go_enter Tryz.func37, Tryz.ntmps37
      go_wp2
      go_ret
      exact ⟨_, rfl, World.ownsRow_nil _ _ _ _, Below.refl _ _⟩
    · have h2 : 3 < ver := by omega
      clear hv
      go_enter Tryz.func37, Tryz.ntmps37
      go_wp2
      go_ret
      exact ⟨_, rfl, World.ownsRow_nil _ _ _ _, Below.refl _ _⟩
  rw [if_neg hv]
  have hv1 : ¬ ver < 1 := by omega
  have hv2 : ¬ 3 < ver := by omega
  have hlen := ofKind_len kind
  obtain ⟨L, hL⟩ : ∃ L, ofKind kind rowsAll = L := ⟨_, rfl⟩
  have hc := rrows_any kind
  rw [hL] at hlen ⊢
  simp only [hL] at hc
  have HC := Lib.hid hc
  clear hL hc hv
  go_enter Tryz.func37, Tryz.ntmps37
  go_wp2_with fail
  refine (HC.out _).mono ?_
  rintro e w1 ⟨v, rfl, hs, hg⟩
  obtain ⟨a, c, rfl, h1, h2, h3, h4⟩ := hs.open
  clear h3
  go_wp2_with fail
  go_loopw [5, 7] (fun v i wr => ∃ j : Nat, j ≤ L.length ∧ i = .int .i64 j ∧ OwnS wr w1.heap.size v ((L.take j).filter (inV ver)) ∧ Grew w1 wr) (fun _ i _ => L.length - (intOf i).toNat)
  case atStart => exact ⟨0, Nat.zero_le _, rfl, World.ownsRow_nil _ _ _ _, Below.refl _ _⟩
  case round =>
    obtain ⟨j, hj, rfl, hown, hB⟩ := hrel
    by_cases hlt : j < L.length
    · obtain ⟨b, off, rfl, hcell⟩ := h4 (by omega)
      obtain ⟨kd, nm, ty, sl, si, hrow⟩ : ∃ kd nm ty sl si, L[j] = (kd, nm, ty, sl, si) := ⟨_, _, _, _, _, rfl⟩
      have hget : ∀ i, i < 4 → (rrowsV L)[j * 4 + i]? = (rrowV (kd, nm, ty, sl, si))[i]? := fun i hi => by rw [← hrow]; exact flat_get (k := 4) (fun _ => rfl) L j hlt i hi
      have b0 := hcell _ _ (hget 0 (by omega))
      have b1 := hcell _ _ (hget 1 (by omega))
      have b2 := hcell _ _ (hget 2 (by omega))
      have c0 := (below_ext hB) _ _ (hcell _ _ (hget 0 (by omega)))
      have c1 := (below_ext hB) _ _ (hcell _ _ (hget 1 (by omega)))
      have c2 := (below_ext hB) _ _ (hcell _ _ (hget 2 (by omega)))
      have c3 := (below_ext hB) _ _ (hcell _ _ (hget 3 (by omega)))
      simp only [Nat.add_zero, ← Nat.add_assoc] at b0 b1 b2 c0 c1 c2 c3
      have hfl : ((L.take j).filter (inV ver)).length ≤ j := by
        have := List.length_filter_le (inV ver) (L.take j); simp at this; omega
      clear hget h4 hcell HC
      by_cases hin : (si : Int) ≤ ver
      · have hsn := filter_snoc_yes (inV ver) L j hlt (by rw [hrow]; simpa [inV] using hin)
        rw [hrow] at hsn
        have HS := Lib.hid hsn
        clear hsn hrow
        have hbase : w1.heap.size ≤ wr.heap.size := hB.size
        go_wp2
        go_region_held3 (fun W => W.cell? ⟨b, off + j * 4, none⟩ = some (.int .i64 nm) ∧ W.cell? ⟨b, off + j * 4 + 1, none⟩ = some (.int .i64 ty) ∧ W.cell? ⟨b, off + j * 4 + 2, none⟩ = some (.int .i64 sl)) (first | go_keep | exact ⟨hk0, hk1, hk2⟩) ((first | (refine step_pushS rfl (.tmp 29) (.tmp 46) rfl w1.heap.size u5 _ (by simp [Act.eval]) (own_grew hown (Grew.trans (Drew.grew ⟨1, rfl⟩) (grew_alloc _ _))) (.slice (some ⟨wr.heap.size, 0, none⟩) 1 1) (by simp [Act.eval]) [(kd, nm, ty, sl, si)] (ss_one wr.drew (kd, nm, ty, sl, si)) (by simp; omega) (by simp; omega) ?_; intro v' w2 hown2 hB2 hgb; have hG : Grew w1 w2 := ((hB.trans (Drew.grew ⟨1, rfl⟩)).alloc (by simp; omega) _).trans hB2; have hk0 := (below_ext hG) _ _ b0; have hk1 := (below_ext hG) _ _ b1; have hk2 := (below_ext hG) _ _ b2)))
        clear hk0 hk1 hk2
        go_wp2
        go_roundw
        case rel => exact ⟨j + 1, by omega, by go_num, by rw [HS.out]; exact hown2, hG⟩
        case measure => simp [intOf]; omega
      · have hsn := filter_snoc_no (inV ver) L j hlt (by rw [hrow]; simpa [inV] using hin)
        have HS := Lib.hid hsn
        clear hsn hrow
        go_wp2
        go_roundw
        case rel => exact ⟨j + 1, by omega, by go_num, by rw [HS.out]; exact hown, hB⟩
        case measure => simp [intOf]; omega
    · obtain rfl : j = L.length := by omega
      rw [List.take_length] at hown
      clear h4
      go_wp2
      go_ret
      exact ⟨_, rfl, own_mono hown hg.size, Grew.trans hg hB⟩
end Go.Proofs.YtbjoohafgkodcaaGreat
