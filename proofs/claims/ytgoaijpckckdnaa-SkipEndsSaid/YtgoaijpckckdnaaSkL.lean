/- slices.Backward over fields, skip.Last: contracts. -/
import Derived.Test.YtgoaijpckckdnaaFld
import Derived.Test.YtgoaijpckckdnaaItw
namespace Go.Proofs.Ytgoaijpckckdnaa
open Go Go.RowKit Go.Shelf
attribute [local go_sem] Oper.semAt_some

theorem skback_any (a : Option Addr) (n c : Nat) (w : World) : Calls Try.prog 72 #[.slice a n c] w fun e w' => e = .returned (.func (.func 121) #[] #[.pointer (some ⟨w.heap.size, 0, none⟩)]) ∧ w' = w.alloc (.cells #[.slice a n c] 24) := by
  go_enter Try.func72, Try.ntmps72
  go_wp2
  go_ret
  exact ⟨rfl, rfl⟩
/-- what is yielded: an index, and the field there -/
abbrev MkB := Nat × FFV
def encB (x : MkB) : Array Value := #[.int .i64 (x.1 : Nat), fldA x.2.1 x.2.2]
def OkB (A : List FFV) (pre : List MkB) (x : MkB) (_ : World) : Prop := pre.length + x.1 + 1 = A.length ∧ A[x.1]? = some x.2

set_option maxRecDepth 100000 in
set_option maxHeartbeats 2000000 in
theorem back_iter (A : List FFV) (v : Value) (Bn n₀ : Nat) (w : World) (hn : n₀ ≤ w.heap.size) (hc : Blk w Bn 24 #[v]) (hs : ∀ w', Below n₀ w w' → FlR w' v A) :
    IterW Try.prog 121 #[.pointer (some ⟨Bn, 0, none⟩)] encB Grew (fun A B => Below n₀ A B ∧ KeepB Bn 24 A B) (OkB A) (fun xs => xs.length = A.length) (fun _ => True) w := by
  intro lp J Jx W hW hJ hJx hY h0
  have hcW := hc.grew hW
  obtain ⟨a, cap, rfl, h1, h2, -, -⟩ := (hs w (Below.refl _ _)).1.open
  unfold maxLen at h2
  have c0 := hcW.cell 0
  simp only [List.getElem?_toArray, List.getElem?_cons_zero] at c0
  refine callsIn_of_wp Try.func121 rfl trivial ?_ rfl
  simp only [Try.ntmps121, List.size_toArray, List.length_cons, List.length_nil, Nat.reduceAdd, Nat.reduceSub, Array.replicate_succ, Array.replicate_zero, List.push_toArray, List.append_toArray, List.nil_append, List.cons_append]
  gi_wp2
  gi_loopw [3] (fun i wr => ∃ (k : Nat) (pre : List MkB), i = .int .i64 ((k : Int) - 1) ∧ pre.length + k = A.length ∧ J pre wr ∧ Below n₀ w wr ∧ Blk wr Bn 24 #[.slice a A.length cap]) (fun i _ => (intOf i + 1).toNat)
  case atStart => exact ⟨A.length, [], rfl, by simp, h0, hW.mono hn, hcW⟩
  case round =>
    obtain ⟨k, pre, rfl, hk, hJ1, hB, hbx⟩ := hrel
    have c1 := hbx.cell 0
    simp only [List.getElem?_toArray, List.getElem?_cons_zero] at c1
    cases k with
    | zero =>
      have hd : decide (((0 : Nat) : Int) - 1 ≥ 0) = false := by decide
      gi_wp2
      go_end0
      exact ⟨⟨_, rfl⟩, .inl ⟨pre, hk, hJ1⟩⟩
    | succ k =>
      have hkl : k < A.length := by omega
      have hr := hs wr hB
      obtain ⟨a', cap', e', -, -, -, h4⟩ := hr.1.open
      cases e'
      obtain ⟨b, o, rfl, -⟩ := h4 (by omega)
      obtain ⟨x0, x1, x2, x3, x4, x5⟩ := fl_cells hr k hkl
      have hget : A[k]? = some A[k] := List.getElem?_eq_getElem hkl
      obtain ⟨⟨X, xv⟩, hx⟩ : ∃ r, r = A[k] := ⟨_, rfl⟩
      rw [← hx] at x0 x1 x2 x3 x4 x5 hget
      simp only at x0 x1 x2 x3 x4 x5
      obtain ⟨xa, xn, xc, rfl, hxn⟩ := bs_shape x5
      obtain ⟨fn, tmps, assign, body, hy, hR⟩ := hY pre (k, (X, .slice xa xn xc)) wr hJ1 ⟨by omega, hget⟩
      simp only [encB] at hy
      have e1 : ((k + 1 : Nat) : Int) - 1 = (k : Int) := by omega
      rw [e1]
      have z0 : (0 : Int) ≤ (k : Int) := by omega
      have z1 : (k : Int) < (A.length : Int) := by omega
      have hK := Lib.hid hk
      clear hr h4 hx x5 hY hJ hJx e1 hk hget
      gi_wp2_with fail
      refine hR.mono ?_
      rintro e W3 (⟨rfl, hJ3, hk3, hk4⟩ | ⟨rfl, hJx3⟩)
      · have hb3 := hk4 _ hbx
        clear hy hR
        gi_wp2
        refine ⟨⟨k, _, rfl, by have := hK.out; simp; omega, hJ3, Below.trans hB hk3, hb3⟩, ?_⟩
        simp only [intOf]; omega
      · clear hy hR
        gi_wp2
        refine bodyPost_ret (results_none rfl _ _ _) rfl ?_
        exact ⟨⟨_, rfl⟩, .inr ⟨_, trivial, hJx3⟩⟩

/-- the last field of a number and wire type -/
def isF (num : Int) (wire : Nat) (x : Fld) : Bool := x.1 == num && x.2.1 == wire
def lastX (fs : List Fld) (num : Int) (wire : Nat) : Fld × Bool := match fs.reverse.find? (isF num wire) with
  | some x => (x, true)
  | none => (zeroF, false)
theorem lastX_none {fs : List Fld} {num : Int} {wire : Nat} (h : ∀ x ∈ fs, isF num wire x = false) : lastX fs num wire = (zeroF, false) := by
  unfold lastX
  rw [List.find?_eq_none.2 (fun x hx => by rw [h x (List.mem_reverse.1 hx)]; simp)]
theorem lastX_some {fs : List Fld} {num : Int} {wire : Nat} {j : Nat} {x : Fld} (hj : fs[j]? = some x) (hx : isF num wire x = true) (h : ∀ i y, j < i → fs[i]? = some y → isF num wire y = false) : lastX fs num wire = (x, true) := by
  obtain ⟨hlt, hv⟩ := List.getElem?_eq_some_iff.1 hj
  have e : fs = fs.take j ++ x :: fs.drop (j + 1) := by
    have := (List.take_append_drop j fs).symm
    rw [List.drop_eq_getElem_cons hlt, hv] at this; exact this
  unfold lastX
  rw [e, List.reverse_append, List.reverse_cons, List.append_assoc, List.find?_append, List.find?_eq_none.2 (fun y hy => ?_)]
  · simp [hx]
  · rw [List.mem_reverse] at hy
    obtain ⟨i, hi⟩ := List.mem_iff_getElem?.1 hy
    rw [List.getElem?_drop] at hi
    rw [h (j + 1 + i) y (by omega) hi]; simp

def LastI (A : List FFV) (num : Int) (wire : Nat) (w : World) (pre : List MkB) (W : World) : Prop :=
  Blk W w.heap.size 3 #[.int .i64 num] ∧ Blk W (w.heap.size + 1) 5 #[.int .u8 wire] ∧ Blk W (w.heap.size + 1 + 1) 39 #[.int .i64 0, .int .u8 0, .int .u64 0, .slice none 0 0, .int .i64 0] ∧ Blk W (w.heap.size + 1 + 1 + 1) 4 #[.bool false] ∧ Grew w W ∧
  RowKit.Hid (∀ i p, A.length ≤ i + pre.length → A[i]? = some p → isF num wire p.1 = false)
def LastP (A : List FFV) (num : Int) (wire : Nat) (w : World) (c : Code) (_pre : List MkB) (W : World) : Prop := c = .ret ∧ ∃ (j : Nat) (p : FFV),
  Blk W (w.heap.size + 1 + 1) 39 #[.int .i64 p.1.1, .int .u8 (p.1.2.1 : Nat), .int .u64 (p.1.2.2.1 : Nat), p.2, .int .i64 p.1.2.2.2.2] ∧ Blk W (w.heap.size + 1 + 1 + 1) 4 #[.bool true] ∧ Grew w W ∧
  RowKit.Hid (A[j]? = some p ∧ isF num wire p.1 = true ∧ ∀ i q, j < i → A[i]? = some q → isF num wire q.1 = false)
theorem LastI.grew {A : List FFV} {num : Int} {wire : Nat} {w : World} {pre : List MkB} {X Y : World} (h : LastI A num wire w pre X) (e : Grew X Y) : LastI A num wire w pre Y := ⟨h.1.grew e, h.2.1.grew e, h.2.2.1.grew e, h.2.2.2.1.grew e, h.2.2.2.2.1.trans e, h.2.2.2.2.2⟩
theorem LastI.ck {A : List FFV} {num : Int} {wire : Nat} {w : World} {pre : List MkB} {X Y : World} {n : Nat} (h : LastI A num wire w pre X) (e : CK n X Y) (hn : w.heap.size ≤ n) : LastI A num wire w pre Y := ⟨e.blk h.1, e.blk h.2.1, e.blk h.2.2.1, e.blk h.2.2.2.1, e.below h.2.2.2.2.1 hn, h.2.2.2.2.2⟩
theorem LastP.grew {A : List FFV} {num : Int} {wire : Nat} {w : World} {c : Code} {pre : List MkB} {X Y : World} (h : LastP A num wire w c pre X) (e : Grew X Y) : LastP A num wire w c pre Y := by
  obtain ⟨hc, j, p, h1, h2, h3, h4⟩ := h
  exact ⟨hc, j, p, h1.grew e, h2.grew e, h3.trans e, h4⟩
theorem LastP.ck {A : List FFV} {num : Int} {wire : Nat} {w : World} {c : Code} {pre : List MkB} {X Y : World} {n : Nat} (h : LastP A num wire w c pre X) (e : CK n X Y) (hn : w.heap.size ≤ n) : LastP A num wire w c pre Y := by
  obtain ⟨hc, j, p, h1, h2, h3, h4⟩ := h
  exact ⟨hc, j, p, e.blk h1, e.blk h2, e.below h3 hn, h4⟩
theorem loadVar_bool1 (w : World) (b : Nat) (v : Value) (h : Blk w b 4 #[v]) : (loadVar 4 ⟨b, 0, none⟩).run Try.prog w = .ok v w := by
  have := h.cell 0
  simp at this
  unfold loadVar
  simp [go_sem, this]

set_option maxRecDepth 100000 in
set_option maxHeartbeats 4000000 in
theorem slast_any (A : List FFV) (v : Value) (num : Int) (wire : Nat) (w : World) (h : FlR w v A) :
    Calls Try.prog 28 #[v, .int .i64 num, .int .u8 wire] w fun e w' => ∃ xv, e = .returned (.tuple #[fldA (lastX (A.map (·.1)) num wire).1 xv, .bool (lastX (A.map (·.1)) num wire).2]) ∧ Bs w' xv (fB (lastX (A.map (·.1)) num wire).1) ∧ Grew w w' := by
  obtain ⟨a, c, rfl, -⟩ := h.1.open
  refine (callsIn_wide (n := 0)).1 (callsIn_of_wp_marks Try.func28 rfl trivial ?_ rfl)
  simp only [Try.ntmps28, List.size_toArray, List.length_cons, List.length_nil, Nat.reduceAdd, Nat.reduceSub, Array.replicate_succ, Array.replicate_zero, List.push_toArray, List.append_toArray, List.nil_append, List.cons_append]
  gi_wp2_with (gi_at_call 72; refine (callsIn_wide.2 (skback_any _ _ _ _)).mono ?_; rintro e w1 ⟨rfl, rfl⟩)
  obtain ⟨w0, hw0⟩ : ∃ w0, w0 = ((((w.alloc (.cells #[.int .i64 num] 3)).alloc (.cells #[.int .u8 wire] 5)).alloc (.cells #[.int .i64 0, .int .u8 0, .int .u64 0, .slice none 0 0, .int .i64 0] 39)).alloc (.cells #[.bool false] 4)) := ⟨_, rfl⟩
  have gw0 : Grew w w0 := by rw [hw0]; exact ((((Below.refl _ _).alloc (Nat.le_refl _) _).alloc (by simp) _).alloc (by simp; omega) _).alloc (by simp; omega) _
  have hz0 : w0.heap.size = w.heap.size + 1 + 1 + 1 + 1 := by rw [hw0]; simp
  have k0 : Blk w0 w.heap.size 3 #[.int .i64 num] := by rw [hw0]; exact (((Blk.new _ _ _).alloc _).alloc _).alloc _
  have k1 : Blk w0 (w.heap.size + 1) 5 #[.int .u8 wire] := by rw [hw0]; exact ((Blk.at (by simp)).alloc _).alloc _
  have k2 : Blk w0 (w.heap.size + 1 + 1) 39 #[.int .i64 0, .int .u8 0, .int .u64 0, .slice none 0 0, .int .i64 0] := by rw [hw0]; exact (Blk.at (by simp)).alloc _
  have k3 : Blk w0 (w.heap.size + 1 + 1 + 1) 4 #[.bool false] := by rw [hw0]; exact Blk.at (by simp)
  try rw [← hw0]
  try rw [← hz0]
  have gb := grew_alloc w0 (.cells #[.slice a A.length c] 24)
  refine wpIn_iterW (gf := 121) (lb := #[.pointer (some ⟨w0.heap.size, 0, none⟩)]) rfl (enters_of Try.func121 (by kernel_rfl) rfl)
    (back_iter A (.slice a A.length c) w0.heap.size w.heap.size _ (by have := gw0.size; simp; omega) (Blk.new _ _ _) (fun w' hw' => h.grew (Below.trans (gw0.trans gb) hw')))
    (fun A B e => keepsOthers_grew e) (fun A B C h1 h2 => ⟨h2.below h1.1 (by have := gw0.size; simp; omega), h1.2.ck h2⟩) (fun _ => rfl)
    (LastI A num wire w) (LastP A num wire w) (fun pre A B h e => h.grew e) (fun pre A B h hc => h.ck hc (by have := gw0.size; simp; omega)) (fun _ _ _ _ h e => h.grew e) (fun _ _ _ _ h hc => h.ck hc (by have := gw0.size; simp; omega))
    ⟨k0.grew gb, k1.grew gb, k2.grew gb, k3.grew gb, gw0.trans gb, Lib.hid (fun i p hi hp => by have := (List.getElem?_eq_some_iff.1 hp).1; simp at hi; omega)⟩ ?round ?done ?stop
  case stop =>
    rintro cd pre W - ⟨rfl, j, p, h1, h2, h3, h4⟩ hD
    gi_wp2
    simp only [World.size_alloc] at hD ⊢
    have hck := CK.putObj w.heap.size W _ _ (.deferred none) hD rfl (by omega)
    refine ⟨by simp, .inl ⟨_, _, rfl, run_takeDeferred hD, ?_⟩⟩
    refine ⟨_, results_cc rfl _ _ _ _ _ _ rfl rfl (loadVar_field _ _ _ rfl (hck.blk h1)) (loadVar_bool1 _ _ _ (hck.blk h2)), ?_⟩
    obtain ⟨q1, q2, q3⟩ := h4.out
    have hl : lastX (A.map (·.1)) num wire = (p.1, true) := lastX_some (j := j) (by rw [List.getElem?_map, q1]; rfl) q2 (fun i y hi hy => by
      rw [List.getElem?_map] at hy
      cases hq : A[i]? with
      | none => rw [hq] at hy; cases hy
      | some q => rw [hq] at hy; cases hy; exact q3 i q hi hq)
    rw [hl]
    have G9 := Below.trans h3 (hck.toBelow (by omega))
    exact ⟨_, rfl, (h.2 p (List.mem_of_getElem? q1)).grew G9, G9⟩
  case done =>
    rintro xs W hS ⟨h0, h1, h2, h3, h4, h5⟩ hD
    obtain ⟨y0, y1, y2, y3, y4, f0, f1, f2, f3, f4⟩ := cells5 h2
    have c3 := h3.cell 0
    have g3 := h3.frozen 0
    simp only [List.getElem?_toArray, List.getElem?_cons_zero] at c3
    have H2 := Lib.hid h2
    have H3 := Lib.hid h3
    have HSS := Lib.hid hS
    clear h0 h1 h2 h3 hS
    gi_wp2
    obtain ⟨W9, hW9⟩ : ∃ W9, W9 = ((((((W.setCell ⟨w.heap.size + 1 + 1, 0, none⟩ (.int .i64 0)).setCell ⟨w.heap.size + 1 + 1, 1, none⟩ (.int .u8 0)).setCell ⟨w.heap.size + 1 + 1, 2, none⟩ (.int .u64 0)).setCell ⟨w.heap.size + 1 + 1, 3, none⟩ (.slice none 0 0)).setCell ⟨w.heap.size + 1 + 1, 4, none⟩ (.int .i64 0)).setCell ⟨w.heap.size + 1 + 1 + 1, 0, none⟩ (.bool false)) := ⟨_, rfl⟩
    try rw [← hW9]
    have r2 : Blk W9 (w.heap.size + 1 + 1) 39 #[.int .i64 0, .int .u8 0, .int .u64 0, .slice none 0 0, .int .i64 0] := by rw [hW9]; exact (((((H2.out.set 0 _).set 1 _).set 2 _).set 3 _).set 4 _).other ⟨w.heap.size + 1 + 1 + 1, 0, none⟩ _ (by simp)
    have r3 : Blk W9 (w.heap.size + 1 + 1 + 1) 4 #[.bool false] := by rw [hW9]; exact (((((H3.out.other ⟨w.heap.size + 1 + 1, 0, none⟩ _ (by simp)).other ⟨w.heap.size + 1 + 1, 1, none⟩ _ (by simp)).other ⟨w.heap.size + 1 + 1, 2, none⟩ _ (by simp)).other ⟨w.heap.size + 1 + 1, 3, none⟩ _ (by simp)).other ⟨w.heap.size + 1 + 1, 4, none⟩ _ (by simp)).set 0 _
    have r4 : Grew w W9 := by rw [hW9]; exact grew_set (grew_set (grew_set (grew_set (grew_set (grew_set h4 (by omega) _) (by omega) _) (by omega) _) (by omega) _) (by omega) _) (by omega) _
    have hD9 : W9.heap[(w0.alloc (.cells #[.slice a A.length c] 24)).heap.size]? = some (.deferred (some [])) := by
      rw [hW9]
      simp only [World.size_alloc, hz0] at hD ⊢
      exact (heap_setCell_other _ ⟨w.heap.size + 1 + 1 + 1, 0, none⟩ _ _ (by simp; omega)).trans ((heap_setCell_other _ ⟨w.heap.size + 1 + 1, 4, none⟩ _ _ (by simp; omega)).trans ((heap_setCell_other _ ⟨w.heap.size + 1 + 1, 3, none⟩ _ _ (by simp; omega)).trans ((heap_setCell_other _ ⟨w.heap.size + 1 + 1, 2, none⟩ _ _ (by simp; omega)).trans ((heap_setCell_other _ ⟨w.heap.size + 1 + 1, 1, none⟩ _ _ (by simp; omega)).trans ((heap_setCell_other _ ⟨w.heap.size + 1 + 1, 0, none⟩ _ _ (by simp; omega)).trans hD)))))
    clear hW9
    have hck := CK.putObj w.heap.size W9 _ _ (.deferred none) hD9 rfl (by simp [hz0]; omega)
    refine ⟨by simp, .inl ⟨_, _, rfl, run_takeDeferred hD9, ?_⟩⟩
    refine ⟨_, results_cc rfl _ _ _ _ _ _ rfl rfl (loadVar_field _ _ _ rfl (hck.blk r2)) (loadVar_bool1 _ _ _ (hck.blk r3)), ?_⟩
    have hl : lastX (A.map (·.1)) num wire = (zeroF, false) := lastX_none (fun x hx => by
      obtain ⟨q, hq, rfl⟩ := List.mem_map.1 hx
      obtain ⟨i, hi⟩ := List.mem_iff_getElem?.1 hq
      exact h5.out i q (by have := HSS.out; omega) hi)
    rw [hl]
    exact ⟨_, rfl, Sl.nil _ _, Below.trans r4 (hck.toBelow (by omega))⟩
  case round =>
    rintro lp pre ⟨j, ⟨X, xv⟩⟩ W hi ⟨hk1, hk2⟩
    obtain ⟨xa, xn, xc, rfl, hxn⟩ := bs_shape ((h.2 _ (List.mem_of_getElem? hk2)))
    have hga := grew_alloc W (.cells #[.int .i64 X.1, .int .u8 (X.2.1 : Nat), .int .u64 (X.2.2.1 : Nat), .slice xa xn xc, .int .i64 X.2.2.2.2] 39)
    simp only [encB]
    have HK1 := Lib.hid hk1
    have HK2 := Lib.hid hk2
    clear hk1 hk2
    gi_wp2
    refine ⟨keepsOthers_grew hga, hi.grew hga, ?_⟩
    rintro W2 hck hsz ⟨h0, h1, h2, h3, h4, h5⟩
    have b9 := hck.blk (Blk.new W 39 #[.int .i64 X.1, .int .u8 (X.2.1 : Nat), .int .u64 (X.2.2.1 : Nat), .slice xa xn xc, .int .i64 X.2.2.2.2])
    have hwz : w.heap.size ≤ W.heap.size := hi.2.2.2.2.1.size
    have hkeep : KeepB w0.heap.size 24 W W2 := fun cs hc => hck.blk (hc.grew hga)
    have hbel : Below w.heap.size W W2 := hck.below (hga.mono hwz) (by have := gw0.size; simp; omega)
    rw [hz0] at hkeep
    clear hi hga hck hsz
    have c0 := h0.cell 0
    have c1 := h1.cell 0
    simp only [List.getElem?_toArray, List.getElem?_cons_zero] at c0 c1
    obtain ⟨p0, p1, p2, p3, p4, -⟩ := cells5 b9
    cases hm : isF num wire X with
    | false =>
      have HN := Lib.hid (show ∀ i q, A.length ≤ i + (pre ++ [((j, (X, Value.slice xa xn xc)) : MkB)]).length → A[i]? = some q → isF num wire q.1 = false from fun i q hi hq => by
        rw [List.length_append] at hi
        simp only [List.length_cons, List.length_nil] at hi
        by_cases he : i = j
        · subst he
          rw [HK2.out] at hq; cases hq; exact hm
        · exact h5.out i q (by have := HK1.out; omega) hq)
      have HI : RowKit.Hid (LastI A num wire w (pre ++ [(j, (X, .slice xa xn xc))]) W2) := Lib.hid ⟨h0, h1, h2, h3, h4, HN⟩
      unfold isF at hm
      by_cases hn : X.1 = num
      · have hw : ¬ (X.2.1 = wire) := by intro e; rw [hn, e] at hm; simp at hm
        have q1 : (X.1 == num) = true := by simpa using hn
        have q2 : (((X.2.1 : Nat) : Int) == (wire : Int)) = false := by simp; omega
        clear hm hn hw h0 h1 h2 h3
        gi_wp2
        exact ⟨KeepsOthers.refl _, ⟨hbel, hkeep⟩, HI.out⟩
      · have q1 : (X.1 == num) = false := by simpa using hn
        clear hm hn h0 h1 h2 h3
        gi_wp2
        exact ⟨KeepsOthers.refl _, ⟨hbel, hkeep⟩, HI.out⟩
    | true =>
      have hm2 := hm
      unfold isF at hm2
      simp only [Bool.and_eq_true, beq_iff_eq] at hm2
      have q1 : (X.1 == num) = true := by simpa using hm2.1
      have q2 : (((X.2.1 : Nat) : Int) == (wire : Int)) = true := by simp; omega
      have HM := Lib.hid hm
      obtain ⟨y0, y1, y2, y3, y4, f0, f1, f2, f3, f4⟩ := cells5 h2
      have c3 := h3.cell 0
      have g3 := h3.frozen 0
      simp only [List.getElem?_toArray, List.getElem?_cons_zero] at c3
      have H2 := Lib.hid h2
      have H3 := Lib.hid h3
      clear hm hm2 h0 h1 h2 h3
      gi_wp2
      refine ⟨((KeepsOthers.setCell _ _ _).trans (KeepsOthers.setCell _ _ _)).trans (((KeepsOthers.setCell _ _ _).trans (KeepsOthers.setCell _ _ _)).trans ((KeepsOthers.setCell _ _ _).trans (KeepsOthers.setCell _ _ _))), rfl, j, (X, .slice xa xn xc), ?_, ?_, ?_, Lib.hid ⟨HK2.out, HM.out, fun i q hi hq => h5.out i q (by have := HK1.out; omega) hq⟩⟩
      · exact (((((H2.out.set 0 _).set 1 _).set 2 _).set 3 _).set 4 _).other ⟨w.heap.size + 1 + 1 + 1, 0, none⟩ _ (by simp)
      · exact (((((H3.out.other ⟨w.heap.size + 1 + 1, 0, none⟩ _ (by simp)).other ⟨w.heap.size + 1 + 1, 1, none⟩ _ (by simp)).other ⟨w.heap.size + 1 + 1, 2, none⟩ _ (by simp)).other ⟨w.heap.size + 1 + 1, 3, none⟩ _ (by simp)).other ⟨w.heap.size + 1 + 1, 4, none⟩ _ (by simp)).set 0 _
      · exact grew_set (grew_set (grew_set (grew_set (grew_set (grew_set h4 (by omega) _) (by omega) _) (by omega) _) (by omega) _) (by omega) _) (by omega) _
end Go.Proofs.Ytgoaijpckckdnaa
