/- Package schema: Find: contract. -/
import Derived.Test.YtgoaijpckckdnaaSchO
namespace Go.Proofs.Ytgoaijpckckdnaa
open Go Go.RowKit Go.Shelf
attribute [local go_sem] Oper.semAt_some

def isField (kind : Nat) (num : Int) (r : Row) : Bool := r.1 == kind && (r.2.1 : Int) == num
def foundV : Option Row → Array Value
  | some r => #[.agg (specV r).toArray, .bool true]
  | none => #[.agg #[.int .i64 0, .int .i64 0, .int .i64 0], .bool false]
/-- while Find looks -/
def FindI (kind : Nat) (num : Int) (w : World) (pre : List Row) (W : World) : Prop :=
  pre.find? (isField kind num) = none ∧ Blk W w.heap.size 5 #[.int .u8 kind] ∧ Blk W (w.heap.size + 1) 3 #[.int .i64 num] ∧ Blk W (w.heap.size + 1 + 1) 63 #[.int .i64 0, .int .i64 0, .int .i64 0] ∧ Blk W (w.heap.size + 1 + 1 + 1) 4 #[.bool false] ∧ Grew w W
theorem FindI.grew {kind : Nat} {num : Int} {w : World} {pre : List Row} {A B : World} (h : FindI kind num w pre A) (e : Grew A B) : FindI kind num w pre B := by
  obtain ⟨h0, h1, h2, h3, h4, h5⟩ := h
  exact ⟨h0, h1.grew e, h2.grew e, h3.grew e, h4.grew e, Grew.trans h5 e⟩
theorem FindI.ck {kind : Nat} {num : Int} {w : World} {pre : List Row} {n : Nat} {A B : World} (h : FindI kind num w pre A) (e : CK n A B) (hn : w.heap.size ≤ n) : FindI kind num w pre B := by
  obtain ⟨h0, h1, h2, h3, h4, h5⟩ := h
  exact ⟨h0, e.blk h1, e.blk h2, e.blk h3, e.blk h4, e.below h5 hn⟩
/-- when it has found -/
def FindX (kind : Nat) (num : Int) (w : World) (c : Code) (pre : List Row) (W : World) : Prop :=
  c = .ret ∧ ∃ r, pre.find? (isField kind num) = some r ∧ Blk W (w.heap.size + 1 + 1) 63 (specV r).toArray ∧ Blk W (w.heap.size + 1 + 1 + 1) 4 #[.bool true] ∧ Grew w W
theorem FindX.grew {kind : Nat} {num : Int} {w : World} {c : Code} {pre : List Row} {A B : World} (h : FindX kind num w c pre A) (e : Grew A B) : FindX kind num w c pre B := by
  obtain ⟨h0, r, h1, h2, h3, h4⟩ := h
  exact ⟨h0, r, h1, h2.grew e, h3.grew e, Grew.trans h4 e⟩
theorem FindX.ck {kind : Nat} {num : Int} {w : World} {c : Code} {pre : List Row} {n : Nat} {A B : World} (h : FindX kind num w c pre A) (e : CK n A B) (hn : w.heap.size ≤ n) : FindX kind num w c pre B := by
  obtain ⟨h0, r, h1, h2, h3, h4⟩ := h
  exact ⟨h0, r, h1, e.blk h2, e.blk h3, e.below h4 hn⟩
theorem find_prefix {α : Type} {p : α → Bool} {l m : List α} {r : α} (h : l <+: m) (hf : l.find? p = some r) : m.find? p = some r := by
  obtain ⟨t, rfl⟩ := h
  rw [List.find?_append, hf]; rfl

theorem results_cells2 {P : Program} {fn : Func} {p u : Tmp} {t1 t2 : TypeId} (h : fn.results = #[.cell p t1, .cell u t2]) (tmps : Array Value) (w : World) (a1 a2 : Addr) (v1 v2 : Value)
    (h1 : tmps.getD p undef = .pointer (some a1)) (h2 : tmps.getD u undef = .pointer (some a2)) (l1 : (loadVar t1 a1).run P w = .ok v1 w) (l2 : (loadVar t2 a2).run P w = .ok v2 w) :
    (results fn tmps).run P w = .ok (.tuple #[v1, v2]) w := by
  have h1' : tmps[p]?.getD undef = .pointer (some a1) := by simpa using h1
  have h2' : tmps[u]?.getD undef = .pointer (some a2) := by simpa using h2
  simp [results, h, h1', h2', asAddr, l1, l2]
theorem loadVar_bool (w : World) (b : Nat) (v : Value) (h : Blk w b 4 #[v]) : (loadVar 4 ⟨b, 0, none⟩).run Try.prog w = .ok v w := by
  have := h.cell 0
  simp at this
  unfold loadVar
  simp [go_sem, this]
theorem loadVar_spec (w : World) (b : Nat) (cs : Array Value) (hs : cs.size = 3) (h : Blk w b 63 cs) : (loadVar 63 ⟨b, 0, none⟩).run Try.prog w = .ok (.agg cs) w :=
  run_loadVar_row w b _ _ cs (0, 0) _ h Try.underlying63 rfl (by rw [hs]; kernel_rfl)

set_option maxRecDepth 100000 in
set_option maxHeartbeats 2000000 in
theorem find_any (kind : Nat) (ver num : Int) (w : World) : Calls Try.prog 39 #[.int .u8 kind, .int .i64 ver, .int .i64 num] w fun e w' =>
    e = .returned (.tuple (foundV ((rowsIn ver).find? (isField kind num)))) ∧ Grew w w' := by
  refine (callsIn_wide (n := 0)).1 (callsIn_of_wp_marks Try.func39 rfl trivial ?_ rfl)
  simp only [Try.ntmps39, List.size_toArray, List.length_cons, List.length_nil, Nat.reduceAdd, Nat.reduceSub, Array.replicate_succ, Array.replicate_zero, List.push_toArray, List.append_toArray, List.nil_append, List.cons_append]
  gi_wp2_with (gi_at_call 88; refine (callsIn_wide.2 (each_any _ _)).mono ?_; rintro e w1 ⟨rfl, rfl⟩)
  refine wpIn_iterB (gf := 129) (lb := #[.pointer (some ⟨w.heap.size + 1 + 1 + 1 + 1, 0, none⟩)]) rfl (enters_of Try.func129 (by kernel_rfl) rfl)
    (each_iter ver (w.heap.size + 1 + 1 + 1 + 1) _ (Blk.at (by simp))) (fun A B e => keepsOthers_grew e) (fun A B C h1 h2 => h1.ck h2) (fun _ => rfl)
    (FindI kind num w) (FindX kind num w) (fun pre A B h e => h.grew e) (fun pre A B h hc => h.ck hc (by simp; omega)) (fun _ _ _ _ h e => h.grew e) (fun _ _ _ _ h hc => h.ck hc (by simp; omega))
    ⟨rfl, ((((Blk.new _ _ _).alloc _).alloc _).alloc _).alloc _, (((Blk.at (by simp)).alloc _).alloc _).alloc _, ((Blk.at (by simp)).alloc _).alloc _, (Blk.at (by simp)).alloc _, (((((Below.refl _ _).alloc (Nat.le_refl _) _).alloc (by simp) _).alloc (by simp; omega) _).alloc (by simp; omega) _).alloc (by simp; omega) _⟩ ?round ?done ?stop
  case stop =>
    rintro c pre W hs ⟨rfl, r, h1, h2, h3, h4⟩ hD
    have hf := find_prefix hs h1
    have s0 := h2.cell 0
    have s1 := h2.cell 1
    have s2 := h2.cell 2
    have s3 := h3.cell 0
    simp [specV] at s0 s1 s2 s3
    gi_wp2
    simp only [World.size_alloc] at hD ⊢
    have hD2 : W.heap[w.heap.size + 1 + 1 + 1 + 1 + 1]? = some (.deferred (some [])) := hD
    have hck := CK.putObj (w.heap.size + 1 + 1 + 1 + 1 + 1) W _ _ (.deferred none) hD2 rfl (Nat.le_refl _)
    refine ⟨by simp, .inl ⟨_, _, rfl, run_takeDeferred hD, ?_⟩⟩
    refine ⟨_, results_cells2 rfl _ _ _ _ _ _ rfl rfl (loadVar_spec _ _ _ rfl (hck.blk h2)) (loadVar_bool _ _ _ (hck.blk h3)), ?_, Below.trans h4 (hck.toBelow (by omega))⟩
    rw [hf]; rfl
  case round =>
    rintro lp pre ⟨kd, nm, ty, sl, si⟩ W hi hok
    have hga := grew_alloc W (.cells #[.int .i64 nm, .int .i64 ty, .int .i64 sl] 63)
    simp only [encRow]
    gi_wp2
    refine ⟨keepsOthers_grew hga, fun h => h.grew hga, ?_⟩
    rintro W2 hck hsz ⟨h0, h1, h2, h3, h4, h5⟩
    have hs := hck.blk (Blk.new W 63 #[.int .i64 nm, .int .i64 ty, .int .i64 sl])
    have hkeep : KeepB (w.heap.size + 1 + 1 + 1 + 1) 3 W W2 := fun cs hc => hck.blk (hc.grew hga)
    clear hi hok hga hck hsz
    have c1 := h1.cell 0
    have c2 := h2.cell 0
    simp only [List.getElem?_toArray, List.getElem?_cons_zero] at c1 c2
    have c3 := h3.cell 0
    have c3' := h3.cell 1
    have c3'' := h3.cell 2
    have c4 := h4.cell 0
    have s0 := hs.cell 0
    have s1 := hs.cell 1
    have s2 := hs.cell 2
    simp at s0 s1 s2 c3 c3' c3'' c4
    have f0 := h3.frozen 0
    have f1 := h3.frozen 1
    have f2 := h3.frozen 2
    have f4 := h4.frozen 0
    by_cases hk : kd = kind
    · subst hk
      by_cases hn : (nm : Int) = num
      · subst hn
        have e : (pre ++ [(kd, nm, ty, sl, si)]).find? (isField kd nm) = some (kd, nm, ty, sl, si) := by rw [List.find?_append, h0]; simp [isField]
        gi_wp2
        refine ⟨(((KeepsOthers.setCell _ _ _).trans (KeepsOthers.setCell _ _ _)).trans (KeepsOthers.setCell _ _ _)).trans (KeepsOthers.setCell _ _ _), rfl, _, e, ?_, ?_, ?_⟩
        · exact (((h3.set 0 _).set 1 _).set 2 _).other _ _ (by simp)
        · exact (((h4.other _ _ (by simp)).other _ _ (by simp)).other _ _ (by simp)).set 0 _
        · exact grew_set (grew_set (grew_set (grew_set h5 (by omega) _) (by omega) _) (by omega) _) (by omega) _
      · have e : (pre ++ [(kd, nm, ty, sl, si)]).find? (isField kd num) = none := by rw [List.find?_append, h0]; simp [isField, hn]
        have hn2 : ((nm : Int) == num) = false := by simpa using hn
        gi_wp2
        exact ⟨KeepsOthers.refl _, hkeep, e, h1, h2, h3, h4, h5⟩
    · have e : (pre ++ [(kd, nm, ty, sl, si)]).find? (isField kind num) = none := by rw [List.find?_append, h0]; simp [isField, hk]
      have hk2 : ((kd : Int) == (kind : Int)) = false := by simp; omega
      gi_wp2
      exact ⟨KeepsOthers.refl _, hkeep, e, h1, h2, h3, h4, h5⟩
  case done =>
    rintro xs W rfl ⟨h0, h1, h2, h3, h4, h5⟩ hD
    have f0 := h3.frozen 0
    have f1 := h3.frozen 1
    have f2 := h3.frozen 2
    have f4 := h4.frozen 0
    have c3 := h3.cell 0
    have c3' := h3.cell 1
    have c3'' := h3.cell 2
    have c4 := h4.cell 0
    simp at c3 c3' c3'' c4
    gi_wp2
    simp only [World.size_alloc] at hD ⊢
    have b1 := (((h3.set 0 (.int .i64 0)).set 1 (.int .i64 0)).set 2 (.int .i64 0)).other ⟨w.heap.size + 1 + 1 + 1, 0, none⟩ (.bool false) (by simp)
    have b2 := (((h4.other ⟨w.heap.size + 1 + 1, 0, none⟩ (.int .i64 0) (by simp)).other ⟨w.heap.size + 1 + 1, 1, none⟩ (.int .i64 0) (by simp)).other ⟨w.heap.size + 1 + 1, 2, none⟩ (.int .i64 0) (by simp)).set 0 (.bool false)
    have g1 := grew_set (grew_set (grew_set (grew_set h5 (b := w.heap.size + 1 + 1) (j := 0) (by omega) (.int .i64 0)) (b := w.heap.size + 1 + 1) (j := 1) (by omega) (.int .i64 0)) (b := w.heap.size + 1 + 1) (j := 2) (by omega) (.int .i64 0)) (b := w.heap.size + 1 + 1 + 1) (j := 0) (by omega) (.bool false)
    have hD2 : W.heap[w.heap.size + 1 + 1 + 1 + 1 + 1]? = some (.deferred (some [])) := hD
    generalize hW' : World.setCell _ _ _ = W' at b1 b2 g1 ⊢
    have hD3 : W'.heap[w.heap.size + 1 + 1 + 1 + 1 + 1]? = some (.deferred (some [])) := by
      rw [← hW']
      rw [heap_setCell_other _ _ _ _ (by simp; omega), heap_setCell_other _ _ _ _ (by simp; omega), heap_setCell_other _ _ _ _ (by simp; omega), heap_setCell_other _ _ _ _ (by simp; omega)]
      exact hD2
    have hck := CK.putObj (w.heap.size + 1 + 1 + 1 + 1 + 1) W' _ _ (.deferred none) hD3 rfl (Nat.le_refl _)
    refine ⟨by simp, .inl ⟨_, _, rfl, run_takeDeferred hD3, ?_⟩⟩
    refine ⟨_, results_cells2 rfl _ _ _ _ _ _ rfl rfl (loadVar_spec _ _ _ rfl (hck.blk b1)) (loadVar_bool _ _ _ (hck.blk b2)), ?_, Below.trans g1 (hck.toBelow (by omega))⟩
    rw [h0]; rfl
end Go.Proofs.Ytgoaijpckckdnaa
