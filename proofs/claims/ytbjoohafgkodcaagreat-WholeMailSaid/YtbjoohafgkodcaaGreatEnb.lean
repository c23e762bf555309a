/- The laws EncodeBytes, EncodeFields return true: their walks. ; A message's numbers are of 64 bits. ; rescriptlaw10.live: contract. ; Arguments that are messages, fields' specs. -/
import Derived.Test.YtbjoohafgkodcaaGreatSch
import Derived.Test.YtbjoohafgkodcaaGreatVa6
import Derived.SliceStrings
import Derived.OpenShut
import Derived.Test.YtbjoohafgkodcaaGreatEn9
import Derived.Test.YtbjoohafgkodcaaGreatEn7
namespace Go.Proofs.YtbjoohafgkodcaaGreat
open Go Go.RowKit Go.WideShapes Go.ChangeShapes Go.ChangeAt Go.Shelf

/-- a message that is read: its list's slice value -/
def MsgR (W : World) (v : Value) (m : Msg) : Prop := ∃ lv, v = .agg (msgA m lv) ∧ Tx W lv m.l ∧ okM m
theorem MsgR.grew {W W' : World} {v : Value} {m : Msg} (h : MsgR W v m) (g : Grew W W') : MsgR W' v m := by
  obtain ⟨lv, e, h1, h2⟩ := h
  exact ⟨lv, e, h1.grew g, h2⟩
section
variable {H : Type} {enc : TypeId × Value → H}
set_option maxRecDepth 100000 in
theorem trod_u8m {W : World} {n : Nat} {c : Value} {y : DataW H × List MemPlace} (h : DataW.trod enc Tryz.prog W 0 (fun _ => true) true n 5 [c] = some y) : ∃ z : Nat, c = .int .u8 z ∧ z < 256 := by
  obtain ⟨z, e, -, wf⟩ := DataW.trod_int Tryz.underlying5 h
  have b := bounds_u8 wf
  simp at e
  obtain ⟨m, rfl⟩ := Int.eq_ofNat_of_zero_le b.1
  exact ⟨m, e, by omega⟩
set_option maxRecDepth 100000 in
theorem trod_u64m {W : World} {n : Nat} {c : Value} {y : DataW H × List MemPlace} (h : DataW.trod enc Tryz.prog W 0 (fun _ => true) true n 24 [c] = some y) : ∃ z : Nat, c = .int .u64 z := by
  obtain ⟨z, e, -, wf⟩ := DataW.trod_int Tryz.underlying24 h
  have b := bounds_u64 wf
  simp at e
  obtain ⟨m, rfl⟩ := Int.eq_ofNat_of_zero_le b.1
  exact ⟨m, e⟩
set_option maxRecDepth 100000 in
theorem trod_intm {W : World} {n : Nat} {c : Value} {y : DataW H × List MemPlace} (h : DataW.trod enc Tryz.prog W 0 (fun _ => true) true n 3 [c] = some y) : ∃ z : Int, c = .int .i64 z := by
  obtain ⟨z, e, -, wf⟩ := DataW.trod_int Tryz.underlying3 h
  simp at e
  exact ⟨z, e⟩
set_option maxRecDepth 100000 in
theorem trod_txts {W : World} {n : Nat} {c : Value} {y : DataW H × List MemPlace} (h : DataW.trod enc Tryz.prog W 0 (fun _ => true) true n 27 [c] = some y) : ∃ l : List ByteArray, Tx W c l ∧ ∀ s ∈ l, s.size ≤ 9223372036854775807 := by
  rcases open_strings Tryz.underlying27 Tryz.underlying9 (by kernel_rfl) h with ⟨hcs, -⟩ | ⟨ad, len, cap, ss, hcs, -, hl, hm, hz, -, hcell, hsz⟩
  · simp at hcs
    subst hcs
    exact ⟨[], Sl.nil W 1, fun s hs => by cases hs⟩
  · simp at hcs
    subst hcs
    simp only [if_true] at hz
    have hlen : (ss.take len).length = len := by simp; omega
    refine ⟨ss.take len, ⟨by simp, some ad, cap, by rw [hlen], by rw [hlen]; exact hl, hm, (fun h => by cases h), ?_⟩, fun s hs => ?_⟩
    · rintro ad' e j u hu
      cases e
      have hj : j < len := by
        have := (List.getElem?_eq_some_iff.1 hu).1
        simp at this; omega
      have hjs : j < ss.length := by omega
      rw [hcell j hjs]
      rw [← hu]
      simp [List.getElem?_take_of_lt hj, hjs, List.getD]
    · have := hsz s (List.mem_of_mem_take hs)
      unfold maxLen at this; omega
set_option maxRecDepth 100000 in
/-- ten cells that read as a message -/
theorem trod_msg {W : World} {n : Nat} {cs : List Value} {d : DataW H × List MemPlace} (hl : cs.length = 10) (h : DataW.trod enc Tryz.prog W 0 (fun _ => true) true n 29 cs = some d) :
    ∃ (m : Msg) (lv : Value), cs = (msgA m lv).toList ∧ Tx W lv m.l ∧ okM m := by
  obtain ⟨ys, k, -, -, -, hyl, hf⟩ := DataW.trod_struct Tryz.underlying29 h
  match cs, hl, ys, hyl with
  | [c0, c1, c2, c3, c4, c5, c6, c7, c8, c9], _, [y0, y1, y2, y3], _ =>
    obtain ⟨z0, rfl, b0⟩ := trod_u8m (c := c0) (hf 0 _ rfl)
    have h1 : DataW.trod enc Tryz.prog W 0 (fun _ => true) true k 25 [c1, c2, c3, c4, c5, c6] = some y1 := hf 1 _ rfl
    have h2 : DataW.trod enc Tryz.prog W 0 (fun _ => true) true k 26 [c7, c8] = some y2 := hf 2 _ rfl
    obtain ⟨l, hT, hS⟩ := trod_txts (c := c9) (hf 3 _ rfl)
    obtain ⟨xs, k1, -, -, -, hxl, hx⟩ := DataW.trod_array Tryz.underlying25 h1
    have hce : Tryz.prog.cellsOf 24 = 1 := by kernel_rfl
    rw [hce] at hx
    match xs, hxl with
    | [x1, x2, x3, x4, x5, x6], _ =>
      obtain ⟨n0, rfl⟩ := trod_u64m (c := c1) (hx 0 (by omega))
      obtain ⟨n1, rfl⟩ := trod_u64m (c := c2) (hx 1 (by omega))
      obtain ⟨n2, rfl⟩ := trod_u64m (c := c3) (hx 2 (by omega))
      obtain ⟨n3, rfl⟩ := trod_u64m (c := c4) (hx 3 (by omega))
      obtain ⟨n4, rfl⟩ := trod_u64m (c := c5) (hx 4 (by omega))
      obtain ⟨n5, rfl⟩ := trod_u64m (c := c6) (hx 5 (by omega))
      obtain ⟨ts, k2, -, -, -, htl, ht⟩ := DataW.trod_array Tryz.underlying26 h2
      have hcs : Tryz.prog.cellsOf 9 = 1 := by kernel_rfl
      rw [hcs] at ht
      match ts, htl with
      | [t1, t2], _ =>
        obtain ⟨s0, e0, -, l0⟩ := DataW.trod_string Tryz.underlying9 (ht 0 (by omega))
        obtain ⟨s1, e1, -, l1⟩ := DataW.trod_string Tryz.underlying9 (ht 1 (by omega))
        simp at e0 e1
        subst e0
        subst e1
        unfold maxLen at l0 l1
        refine ⟨⟨z0, fun i => if i = 0 then n0 else if i = 1 then n1 else if i = 2 then n2 else if i = 3 then n3 else if i = 4 then n4 else n5, fun i => if i = 0 then s0 else s1, l⟩, c9, rfl, hT, ?_, hS⟩
        intro i hi
        simp only
        split <;> omega
set_option maxRecDepth 100000 in
theorem open_msg {W : World} {b0 : Nat} {v : Value} {d : DataW H} {p : List MemPlace} (hv : Value.okWide Tryz.prog W .any b0 29 v) (h : DataW.Trod enc Tryz.prog W 0 (fun _ => true) true 29 v d p) :
    ∃ m : Msg, MsgR W v m := by
  obtain ⟨cs, rfl, hc⟩ := okWide_struct Tryz.underlying29 hv
  obtain ⟨fuel, hf⟩ := h
  have h2 : Tryz.prog.cellsOf 29 = 10 := by kernel_rfl
  obtain ⟨m, lv, e, hT, hO⟩ := trod_msg (cs := (Value.agg cs).cells.toList) (by simp [Value.cells]; omega) hf
  refine ⟨m, lv, ?_, hT, hO⟩
  have : cs.toList = (msgA m lv).toList := by simpa [Value.cells] using e
  rw [Array.toList_inj.1 this]
/-- a field's spec -/
def SpecR (v : Value) (nm t sl : Int) : Prop := v = .agg #[.int .i64 nm, .int .i64 t, .int .i64 sl]
set_option maxRecDepth 100000 in
theorem open_spec {W : World} {b0 : Nat} {v : Value} {d : DataW H} {p : List MemPlace} (hv : Value.okWide Tryz.prog W .any b0 82 v) (h : DataW.Trod enc Tryz.prog W 0 (fun _ => true) true 82 v d p) :
    ∃ x : Int × Int × Int, v = .agg #[.int .i64 x.1, .int .i64 x.2.1, .int .i64 x.2.2] := by
  obtain ⟨cs, rfl, hc⟩ := okWide_struct Tryz.underlying82 hv
  obtain ⟨fuel, hf⟩ := h
  have h2 : Tryz.prog.cellsOf 82 = 3 := by kernel_rfl
  obtain ⟨ys, k, -, -, -, hyl, hg⟩ := DataW.trod_struct Tryz.underlying82 hf
  have hl : (Value.agg cs).cells.toList.length = 3 := by simp [Value.cells]; omega
  have hcs : (Value.agg cs).cells.toList = cs.toList := by simp [Value.cells]
  rw [hcs] at hl hg
  match e : cs.toList, hl, ys, hyl with
  | [c0, c1, c2], _, [y0, y1, y2], _ =>
    rw [e] at hg
    obtain ⟨z0, rfl⟩ := trod_intm (c := c0) (hg 0 _ rfl)
    obtain ⟨z1, rfl⟩ := trod_intm (c := c1) (hg 1 _ rfl)
    obtain ⟨z2, rfl⟩ := trod_intm (c := c2) (hg 2 _ rfl)
    refine ⟨(z0, z1, z2), ?_⟩
    have : cs = #[.int .i64 z0, .int .i64 z1, .int .i64 z2] := Array.toList_inj.1 e
    rw [this]
end
end Go.Proofs.YtbjoohafgkodcaaGreat
namespace Go.Proofs.YtbjoohafgkodcaaGreat
open Go Go.RowKit Go.Shelf
attribute [local go_sem] Oper.semAt_some

def mQ : Msg := ⟨8, fun _ => 0, fun _ => ⟨#[]⟩, []⟩
theorem mQ_ok : okE mQ := ⟨fun i _ => Nat.zero_le _, (fun s (h : s ∈ ([] : List ByteArray)) => absurd h List.not_mem_nil), Nat.zero_le _, fun i _ => by show (0 : Nat) < _; omega⟩
theorem mQ_args : msgA mQ (.slice none 0 0) = #[.int .u8 8, .int .u64 0, .int .u64 0, .int .u64 0, .int .u64 0, .int .u64 0, .int .u64 0, .string ⟨#[]⟩, .string ⟨#[]⟩, .slice none 0 0] := rfl
theorem mQ_chk2 : chkM mQ (ofKind 8 (rowsIn 2)) = (0, 0) := by decide
theorem mQ_chk1 : chkM mQ (ofKind 8 (rowsIn 1)) = (7, 0) := by decide
theorem mQ_msg2 : msgB mQ (ofKind 8 (rowsIn 2)) = [] := by decide +kernel
theorem mQ_msg1 : msgB mQ (ofKind 8 (rowsIn 1)) = [] := by decide +kernel
theorem mA_msg : msgB mA (ofKind 1 (rowsIn 1)) = [8, 1, 16, 3] := by decide +kernel
theorem mA_fld : (fieldF mA 2 1 1).length = 2 := by decide +kernel
end Go.Proofs.YtbjoohafgkodcaaGreat
namespace Go.Proofs.YtbjoohafgkodcaaGreat
open Go Go.RowKit Go.WideShapes Go.ChangeShapes Go.ChangeAt Go.Shelf
section
variable {H : Type} {enc : TypeId × Value → H}
theorem trod_u64b {W : World} {n z : Nat} {y : DataW H × List MemPlace} (h : DataW.trod enc Tryz.prog W 0 (fun _ => true) true n 24 [.int .u64 (z : Nat)] = some y) : z < 18446744073709551616 := by
  obtain ⟨z', e, -, wf⟩ := DataW.trod_int Tryz.underlying24 h
  have b := bounds_u64 wf
  simp at e
  omega
set_option maxRecDepth 100000 in
theorem open_msgN {W : World} {m : Msg} {lv : Value} {d : DataW H} {p : List MemPlace} (h : DataW.Trod enc Tryz.prog W 0 (fun _ => true) true 29 (.agg (msgA m lv)) d p) : ∀ i, i < 6 → m.n i < 18446744073709551616 := by
  obtain ⟨fuel, hf⟩ := h
  obtain ⟨ys, k, -, -, -, hyl, hf⟩ := DataW.trod_struct Tryz.underlying29 hf
  match ys, hyl with
  | [y0, y1, y2, y3], _ =>
    have h1 : DataW.trod enc Tryz.prog W 0 (fun _ => true) true k 25 [.int .u64 (m.n 0), .int .u64 (m.n 1), .int .u64 (m.n 2), .int .u64 (m.n 3), .int .u64 (m.n 4), .int .u64 (m.n 5)] = some y1 := hf 1 _ rfl
    obtain ⟨xs, k1, -, -, -, hxl, hx⟩ := DataW.trod_array Tryz.underlying25 h1
    have hce : Tryz.prog.cellsOf 24 = 1 := by kernel_rfl
    rw [hce] at hx
    match xs, hxl with
    | [x1, x2, x3, x4, x5, x6], _ =>
      have q0 := trod_u64b (hx 0 (by omega))
      have q1 := trod_u64b (hx 1 (by omega))
      have q2 := trod_u64b (hx 2 (by omega))
      have q3 := trod_u64b (hx 3 (by omega))
      have q4 := trod_u64b (hx 4 (by omega))
      have q5 := trod_u64b (hx 5 (by omega))
      intro i hi
      rcases (show i = 0 ∨ i = 1 ∨ i = 2 ∨ i = 3 ∨ i = 4 ∨ i = 5 by omega) with rfl | rfl | rfl | rfl | rfl | rfl <;> assumption
set_option maxRecDepth 100000 in
/-- a field's number is one of 64 bits -/
theorem open_specN {W : World} {x : Int × Int × Int} {d : DataW H} {p : List MemPlace} (h : DataW.Trod enc Tryz.prog W 0 (fun _ => true) true 82 (.agg #[.int .i64 x.1, .int .i64 x.2.1, .int .i64 x.2.2]) d p) : -9223372036854775808 ≤ x.1 ∧ x.1 ≤ 9223372036854775807 := by
  obtain ⟨fuel, hf⟩ := h
  obtain ⟨ys, k, -, -, -, hyl, hf⟩ := DataW.trod_struct Tryz.underlying82 hf
  match ys, hyl with
  | [y0, y1, y2], _ =>
    have h1 : DataW.trod enc Tryz.prog W 0 (fun _ => true) true k 3 [.int .i64 x.1] = some y0 := hf 0 _ rfl
    obtain ⟨z', e, -, wf⟩ := DataW.trod_int Tryz.underlying3 h1
    have b := bounds_i64 wf
    simp at e
    omega
end
end Go.Proofs.YtbjoohafgkodcaaGreat
namespace Go.Proofs.YtbjoohafgkodcaaGreat
open Go Go.RowKit Go.Shelf
attribute [local go_sem] Oper.semAt_some

theorem small_len' {m : Msg} (h : smallB m = true) : m.l.length ≤ 70 := by
  unfold smallB at h
  simp only [Bool.and_eq_true, Bool.not_eq_true', Bool.or_eq_false_iff, decide_eq_false_iff_not] at h
  omega
end Go.Proofs.YtbjoohafgkodcaaGreat
