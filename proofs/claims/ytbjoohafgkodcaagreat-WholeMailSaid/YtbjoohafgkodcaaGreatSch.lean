/- Package schema and its reference: contracts. -/
import Derived.Test.YtbjoohafgkodcaaGreatLaw
namespace Go.Proofs.YtbjoohafgkodcaaGreat
open Go Go.RowKit Go.Shelf
attribute [local go_sem] Oper.semAt_some

/-- all fields: kind, number, type, place, from which version on -/
def rowsAll : List (Nat × Nat × Nat × Nat × Nat) := [(1, 1, 1, 0, 1), (1, 2, 1, 1, 1), (1, 3, 7, 0, 1), (2, 1, 1, 0, 1), (2, 2, 6, 1, 1), (2, 3, 7, 0, 2), (3, 1, 7, 0, 1), (3, 2, 9, 1, 1), (3, 3, 4, 0, 3), (4, 1, 7, 0, 1), (4, 2, 2, 0, 1), (4, 3, 7, 1, 2), (4, 4, 10, 0, 3), (5, 1, 2, 0, 1), (5, 2, 1, 1, 1), (5, 3, 7, 0, 1), (5, 4, 1, 2, 1), (5, 5, 4, 3, 1), (5, 6, 2, 4, 2), (5, 7, 10, 0, 3), (6, 1, 2, 0, 1), (6, 2, 1, 1, 1), (6, 3, 1, 2, 1), (6, 4, 4, 3, 1), (6, 5, 1, 4, 1), (6, 6, 8, 0, 2), (6, 7, 3, 5, 3), (7, 1, 2, 0, 1), (7, 2, 8, 0, 2), (8, 1, 2, 0, 2), (9, 1, 2, 0, 1), (9, 2, 1, 1, 1), (9, 3, 1, 2, 1), (9, 4, 10, 0, 2), (9, 5, 5, 3, 3), (9, 6, 3, 4, 3), (10, 1, 1, 0, 1), (10, 2, 8, 0, 1), (10, 3, 2, 1, 2), (10, 4, 6, 2, 3)]
def rowV (r : Nat × Nat × Nat × Nat × Nat) : List Value := [.int .u8 r.1, .int .i64 r.2.1, .int .i64 r.2.2.1, .int .i64 r.2.2.2.1, .int .i64 r.2.2.2.2]
def rowsV : Array Value := (rowsAll.flatMap rowV).toArray
def zerosV : Array Value := ((List.replicate 40 (rowV (0, 0, 0, 0, 0))).flatten).toArray
theorem zero_rows (w : World) : (zeroValue 189).run Tryz.prog w = .ok (.agg zerosV) w := by kernel_rfl
theorem info_rows : (Tryz.prog.info? 189).map (·.size) = some rowsV.size := by kernel_rfl

set_option maxRecDepth 100000 in
set_option maxHeartbeats 4000000 in
theorem rows_any (w : World) : Calls Tryz.prog 125 #[] w fun e w' => e = .returned (.agg rowsV) ∧ Grew w w' := by
  have hz := zero_rows
  go_enter Tryz.func125, Tryz.ntmps125
  go_upto_region 1 with (fail)
  refine wp_region_lit ?_
  refine wpList_builds_n 41 42 rfl { tmps := #[.pointer (some ⟨w.heap.size, 0, none⟩)] ++ (rowsAll.map fun r => Value.agg (rowV r).toArray).toArray ++ #[.agg rowsV], defers := [] } (by kernel_rfl) ?_
  refine wpList_store_row rfl 189 _ _ rfl w.heap.size rowsV (by kernel_rfl) (by kernel_rfl) 189 zerosV (Blk.new _ _ _) (by kernel_rfl) (by kernel_rfl) (by kernel_rfl) ?_
  refine wpList_nil ?_
  go_wp2_with fail
  refine bodyPost_ret (results_cell_row rfl _ _ w.heap.size 189 rowsV (0, 0) _ (by kernel_rfl) ((Blk.new _ _ _).row _) Tryz.underlying189 rfl (by kernel_rfl)) rfl ⟨rfl, below_setRow ((Below.refl _ _).alloc (Nat.le_refl _) _) (Nat.le_refl _) _⟩

theorem rows_len : rowsAll.length = 40 := rfl
/-- row k of the table, as the walk reads it -/
def IndexRow (k : Nat) : Prop := ∀ w : World, (Instr.index 189 (.agg rowsV) (.int .i64 k)).run Tryz.prog w = .ok (.agg (rowV (rowsAll.getD k (0, 0, 0, 0, 0))).toArray) w
theorem index_rows : ∀ k : Nat, k < 40 → IndexRow k
  | 0, _ => fun _ => by kernel_rfl
  | 1, _ => fun _ => by kernel_rfl
  | 2, _ => fun _ => by kernel_rfl
  | 3, _ => fun _ => by kernel_rfl
  | 4, _ => fun _ => by kernel_rfl
  | 5, _ => fun _ => by kernel_rfl
  | 6, _ => fun _ => by kernel_rfl
  | 7, _ => fun _ => by kernel_rfl
  | 8, _ => fun _ => by kernel_rfl
  | 9, _ => fun _ => by kernel_rfl
  | 10, _ => fun _ => by kernel_rfl
  | 11, _ => fun _ => by kernel_rfl
  | 12, _ => fun _ => by kernel_rfl
  | 13, _ => fun _ => by kernel_rfl
  | 14, _ => fun _ => by kernel_rfl
  | 15, _ => fun _ => by kernel_rfl
  | 16, _ => fun _ => by kernel_rfl
  | 17, _ => fun _ => by kernel_rfl
  | 18, _ => fun _ => by kernel_rfl
  | 19, _ => fun _ => by kernel_rfl
  | 20, _ => fun _ => by kernel_rfl
  | 21, _ => fun _ => by kernel_rfl
  | 22, _ => fun _ => by kernel_rfl
  | 23, _ => fun _ => by kernel_rfl
  | 24, _ => fun _ => by kernel_rfl
  | 25, _ => fun _ => by kernel_rfl
  | 26, _ => fun _ => by kernel_rfl
  | 27, _ => fun _ => by kernel_rfl
  | 28, _ => fun _ => by kernel_rfl
  | 29, _ => fun _ => by kernel_rfl
  | 30, _ => fun _ => by kernel_rfl
  | 31, _ => fun _ => by kernel_rfl
  | 32, _ => fun _ => by kernel_rfl
  | 33, _ => fun _ => by kernel_rfl
  | 34, _ => fun _ => by kernel_rfl
  | 35, _ => fun _ => by kernel_rfl
  | 36, _ => fun _ => by kernel_rfl
  | 37, _ => fun _ => by kernel_rfl
  | 38, _ => fun _ => by kernel_rfl
  | 39, _ => fun _ => by kernel_rfl
  | n + 40, h => absurd h (by omega)

/-- the fields that there are in a version -/
def inV (ver : Int) (r : Nat × Nat × Nat × Nat × Nat) : Bool := decide ((r.2.2.2.2 : Int) ≤ ver)
def rowsIn (ver : Int) : List (Nat × Nat × Nat × Nat × Nat) := if ver < 1 ∨ 3 < ver then [] else rowsAll.filter (inV ver)
def encRow (r : Nat × Nat × Nat × Nat × Nat) : Array Value := #[.int .u8 r.1, .agg #[.int .i64 r.2.1, .int .i64 r.2.2.1, .int .i64 r.2.2.2.1]]

theorem each_any (ver : Int) (w : World) : Calls Tryz.prog 100 #[.int .i64 ver] w fun e w' => e = .returned (.func (.func 124) #[] #[.pointer (some ⟨w.heap.size, 0, none⟩)]) ∧ w' = w.alloc (.cells #[.int .i64 ver] 3) := by
  go_enter Tryz.func100, Tryz.ntmps100
  go_wp2
  go_ret
  exact ⟨rfl, rfl⟩

theorem filter_snoc_yes {α : Type} (p : α → Bool) (l : List α) (k : Nat) (h : k < l.length) (hp : p l[k] = true) : (l.take (k + 1)).filter p = (l.take k).filter p ++ [l[k]] := by
  rw [List.take_succ_eq_append_getElem h, List.filter_append]; simp [hp]
theorem filter_snoc_no {α : Type} (p : α → Bool) (l : List α) (k : Nat) (h : k < l.length) (hp : p l[k] = false) : (l.take (k + 1)).filter p = (l.take k).filter p := by
  rw [List.take_succ_eq_append_getElem h, List.filter_append]; simp [hp]
theorem filter_prefix {α : Type} (p : α → Bool) (l : List α) (k : Nat) : (l.take k).filter p <+: l.filter p := by
  refine ⟨(l.drop k).filter p, ?_⟩
  rw [← List.filter_append, List.take_append_drop]

set_option maxRecDepth 100000 in
set_option maxHeartbeats 2000000 in
theorem each_iter (ver : Int) (Bv : Nat) (w : World) (hc : Blk w Bv 3 #[.int .i64 ver]) :
    Iter Tryz.prog 124 #[.pointer (some ⟨Bv, 0, none⟩)] encRow Grew (KeepB Bv 3) (fun pre x => pre ++ [x] <+: rowsIn ver) (fun xs => xs = rowsIn ver) (fun pre => pre <+: rowsIn ver) w := by
  intro lp J Jx W hW hJ hJx hY h0
  have hcW := hc.grew hW
  have hc1 := hcW.cell 0
  simp only [List.getElem?_toArray, List.getElem?_cons_zero] at hc1
  by_cases hv : ver < 1 ∨ 3 < ver
  · have hr : rowsIn ver = [] := by unfold rowsIn; rw [if_pos hv]
    refine callsIn_of_wp Tryz.func124 rfl trivial ?_ rfl
    simp only [Tryz.ntmps124, List.size_toArray, List.length_cons, List.length_nil, Nat.reduceAdd, Nat.reduceSub, Array.replicate_succ, Array.replicate_zero, List.push_toArray, List.append_toArray, List.nil_append, List.cons_append]
    have HR := Lib.hid hr
    clear hr hY hJ hJx
    by_cases h1 : ver < 1
    · clear hv
      gi_wp2
      refine bodyPost_ret (results_none rfl _ _ _) rfl ?_
      first | exact ⟨⟨_, rfl⟩, .inl ⟨[], HR.out.symm, h0⟩⟩ | exact ⟨⟨_, rfl⟩, .inl (by rw [HR.out]; exact h0)⟩
    · have h2 : 3 < ver := by omega
      clear hv
      gi_wp2
      refine bodyPost_ret (results_none rfl _ _ _) rfl ?_
      first | exact ⟨⟨_, rfl⟩, .inl ⟨[], HR.out.symm, h0⟩⟩ | exact ⟨⟨_, rfl⟩, .inl (by rw [HR.out]; exact h0)⟩
  · have hv1 : 1 ≤ ver := by omega
    have hv2 : ver ≤ 3 := by omega
    have hr : rowsIn ver = rowsAll.filter (inV ver) := by unfold rowsIn; rw [if_neg hv]
    have HR := Lib.hid hr
    clear hr hv
    refine callsIn_of_wp Tryz.func124 rfl trivial ?_ rfl
    simp only [Tryz.ntmps124, List.size_toArray, List.length_cons, List.length_nil, Nat.reduceAdd, Nat.reduceSub, Array.replicate_succ, Array.replicate_zero, List.push_toArray, List.append_toArray, List.nil_append, List.cons_append]
    gi_wp2_with (gi_at_call 125; refine (callsIn_wide.2 (rows_any _)).mono ?_; rintro e w1 ⟨rfl, hg1⟩)
    have hJ1 := hJ _ _ _ h0 hg1
    have hb1 := hcW.grew hg1
    clear hc1 h0
    gi_loopw [4, 12] (fun _ i wr => ∃ k : Nat, k ≤ 40 ∧ i = .int .i64 k ∧ J ((rowsAll.take k).filter (inV ver)) wr ∧ Blk wr Bv 3 #[.int .i64 ver]) (fun _ i _ => 40 - (intOf i).toNat)
    case atStart => exact ⟨0, Nat.zero_le _, rfl, hJ1, hb1⟩
    case round =>
      obtain ⟨k, hk, rfl, hJk, hbk⟩ := hrel
      clear hJ1 hb1 hcW hc hW hg1
      by_cases hlt : k < 40
      · have hk' : k < rowsAll.length := hlt
        obtain ⟨kd, nm, ty, sl, si, hrow⟩ : ∃ kd nm ty sl si, rowsAll[k] = (kd, nm, ty, sl, si) := ⟨_, _, _, _, _, rfl⟩
        have hix : ∀ w : World, (Instr.index 189 (.agg rowsV) (.int .i64 k)).run Tryz.prog w = .ok (.agg (rowV (kd, nm, ty, sl, si)).toArray) w := by
          have h := index_rows k hlt
          rw [IndexRow, show rowsAll.getD k (0, 0, 0, 0, 0) = rowsAll[k] by simp [List.getD, hk'], hrow] at h
          exact h
        simp only [rowV] at hix
        have HROW := Lib.hid hrow
        clear hrow
        have hga : Grew wr (wr.alloc (.cells #[.int .u8 kd, .int .i64 nm, .int .i64 ty, .int .i64 sl, .int .i64 si] 188)) := (Below.refl _ _).alloc (Nat.le_refl _) _
        have hba := hbk.grew hga
        have hc1 := hba.cell 0
        simp only [List.getElem?_toArray, List.getElem?_cons_zero] at hc1
        have hJa := hJ _ _ _ hJk hga
        by_cases hin : (si : Int) ≤ ver
        · have hp : inV ver rowsAll[k] = true := by rw [HROW.out]; simpa [inV] using hin
          have hsn := filter_snoc_yes (inV ver) rowsAll k hk' hp
          have hok : (rowsAll.take k).filter (inV ver) ++ [rowsAll[k]] <+: rowsIn ver := by rw [← hsn, HR.out]; exact filter_prefix _ _ _
          obtain ⟨fn, tmps, assign, body, hy, hR⟩ := hY _ _ _ hJa hok
          rw [HROW.out] at hy
          simp only [encRow] at hy
          have HSN := Lib.hid hsn
          have HOK := Lib.hid hok
          clear hsn hok hp hJk hJa hbk
          gi_wp2
          refine hR.mono ?_
          rintro e W3 (⟨rfl, hJ3, hk3⟩ | ⟨rfl, hJx3⟩)
          · rw [← HSN.out] at hJ3
            have hb3 := hk3 _ hba
            clear hy hR hba hc1 hga hk3
            gi_wp2
            go_roundw
            case rel => exact ⟨k + 1, by omega, by go_num, hJ3, hb3⟩
            case measure => simp [intOf]; omega
          · clear hy hR hba hc1 hga
            gi_wp2
            refine bodyPost_ret (results_none rfl _ _ _) rfl ?_
            exact ⟨⟨_, rfl⟩, .inr ⟨_, HOK.out, hJx3⟩⟩
        · have hp : inV ver rowsAll[k] = false := by rw [HROW.out]; simpa [inV] using hin
          have hsn := filter_snoc_no (inV ver) rowsAll k hk' hp
          rw [← hsn] at hJa
          clear hsn hp hY hJk
          gi_wp2
          go_roundw
          case rel => exact ⟨k + 1, by omega, by go_num, hJa, hba⟩
          case measure => simp [intOf]; omega
      · obtain rfl : k = 40 := by omega
        have e : rowsAll.take 40 = rowsAll := List.take_of_length_le (by rw [rows_len]; omega)
        rw [e, ← HR.out] at hJk
        clear e hY
        gi_wp2
        go_end0
        first | exact ⟨⟨_, rfl⟩, .inl hJk⟩ | exact ⟨⟨_, rfl⟩, .inl ⟨_, rfl, hJk⟩⟩

abbrev Row := Nat × Nat × Nat × Nat × Nat
def specV (r : Row) : List Value := [.int .i64 r.2.1, .int .i64 r.2.2.1, .int .i64 r.2.2.2.1]
def specsV (l : List Row) : List Value := l.flatMap specV
theorem specsV_length (l : List Row) : (specsV l).length = l.length * 3 := by
  induction l with
  | nil => rfl
  | cons x l ih => simp only [specsV, List.flatMap_cons, List.length_append, List.length_cons] at ih ⊢; rw [ih]; simp [specV]; omega
theorem specsV_snoc (l : List Row) (x : Row) : specsV (l ++ [x]) = specsV l ++ specV x := by simp [specsV]
/-- a kind's rows -/
def ofKind (k : Nat) (l : List Row) : List Row := l.filter fun r => r.1 == k
abbrev OwnS (w : World) (base : Nat) (v : Value) (l : List Row) : Prop := w.ownsRow base 82 3 v l.length (specsV l)
abbrev Ss (w : World) (v : Value) (l : List Row) : Prop := Sl w v l.length 3 (specsV l)
theorem info_spec : (Tryz.prog.info? 82).map (fun i => (i.zero, i.size, i.bytes)) = some (some (.agg #[.int .i64 0, .int .i64 0, .int .i64 0]), 3, 24) := by kernel_rfl
theorem rowsIn_len (v : Int) : (rowsIn v).length ≤ 40 := by
  unfold rowsIn; split
  · simp
  · exact List.length_filter_le _ _

end Go.Proofs.YtbjoohafgkodcaaGreat
