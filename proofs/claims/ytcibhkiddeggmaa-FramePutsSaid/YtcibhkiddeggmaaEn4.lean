/- encode.each: the iterator over a message's fields. -/
import Derived.Test.YtcibhkiddeggmaaEn3
import Derived.Test.YtcibhkiddeggmaaVa1
import Derived.Test.YtcibhkiddeggmaaSchS
import Derived.Test.YtcibhkiddeggmaaItw
import Derived.Test.YtcibhkiddeggmaaTch
namespace Go.Proofs.Ytcibhkiddeggmaa
open Go Go.RowKit Go.Shelf
attribute [local go_sem] Oper.semAt_some

theorem rows_nm : ∀ r ∈ rowsAll, r.2.1 ≤ 1000 := by decide
theorem nm_ok {k : Nat} {ver : Int} {r : Row} (h : r ∈ ofKind k (rowsIn ver)) : (r.2.1 : Int) ≤ 9223372036854775807 := by have := rows_nm r (ofKind_sub h).1; omega
/-- the bytes of a row's field -/
def fR (m : Msg) (r : Row) : List UInt8 := fieldF m (r.2.1 : Int) (r.2.2.1 : Int) (r.2.2.2.1 : Int)
abbrev MkE := List UInt8 × Value
def encE (x : MkE) : Array Value := #[x.2]
def OkE (m : Msg) (L : List Row) (pre : List MkE) (x : MkE) (W : World) : Prop := pre.length < L.length ∧ (pre ++ [x]).map (·.1) = (L.take (pre.length + 1)).map (fR m) ∧ Bs W x.2 x.1
/-- types that a round leaves alone -/
def EnT (t : TypeId) : Prop := t = 44 ∨ t = 55
theorem eeach_any (m : Msg) (lv : Value) (ver : Int) (w : World) : Calls Try.prog 35 #[.agg (msgA m lv), .int .i64 ver] w fun e w' =>
    e = .returned (.func (.func 52) #[] #[.pointer (some ⟨w.heap.size, 0, none⟩), .pointer (some ⟨w.heap.size + 1, 0, none⟩)]) ∧ w' = (w.alloc (.cells (msgA m lv) 44)).alloc (.cells #[.int .i64 ver] 3) := by
  simp only [msgA]
  go_enter Try.func35, Try.ntmps35
  go_wp2
  go_ret
  exact ⟨by simp, rfl⟩
set_option maxRecDepth 100000 in
set_option maxHeartbeats 4000000 in
theorem eeach_iter (m : Msg) (a : Option Addr) (c : Nat) (ver : Int) (Bm Bi n₀ : Nat) (w : World) (hn : n₀ ≤ w.heap.size) (hcm : Blk w Bm 44 (msgA m (.slice a m.l.length c))) (hci : Blk w Bi 3 #[.int .i64 ver])
    (htx : ∀ w', Below n₀ w w' → Tx w' (.slice a m.l.length c) m.l) (hm : okE m) :
    IterW Try.prog 52 #[.pointer (some ⟨Bm, 0, none⟩), .pointer (some ⟨Bi, 0, none⟩)] encE Grew (fun A B => Below n₀ A B ∧ KeepT EnT A B) (OkE m (ofKind m.k (rowsIn ver))) (fun xs => xs.map (·.1) = (ofKind m.k (rowsIn ver)).map (fR m)) (fun _ => True) w := by
  intro lp J Jx W hW hJ hJx hY h0
  have KO := Lib.hid (fun W => of_any m.k ver W)
  have hle := ofKind_le m.k ver
  have hnm := fun r (h : r ∈ ofKind m.k (rowsIn ver)) => nm_ok h
  generalize ofKind m.k (rowsIn ver) = L at KO hle hY hnm ⊢
  have HNM := Lib.hid hnm
  clear hnm
  have hcW := hcm.grew hW
  have hiW := hci.grew hW
  obtain ⟨c0, -, -, -, -, -, -, -, -, -⟩ := mcells hcW
  have i0 := hiW.cell 0
  simp only [List.getElem?_toArray, List.getElem?_cons_zero] at i0
  have HM := Lib.hid hm
  have HTX := Lib.hid htx
  clear hm htx hcm hci hiW
  refine callsIn_of_wp Try.func52 rfl trivial ?_ rfl
  simp only [Try.ntmps52, List.size_toArray, List.length_cons, List.length_nil, Nat.reduceAdd, Nat.reduceSub, Array.replicate_succ, Array.replicate_zero, List.push_toArray, List.append_toArray, List.nil_append, List.cons_append]
  gi_wp2_with fail
  refine (callsIn_wide.2 (KO.out _)).mono ?_
  rintro e w1 ⟨v1, rfl, r1, g1⟩
  obtain ⟨a1, c1, rfl, -, -, -, -⟩ := (Sl.of_own r1).open
  have hJ1 := hJ _ _ _ h0 g1
  have hcm1 := hcW.grew g1
  have hB1 : Below n₀ w w1 := Below.trans (hW.mono hn) (g1.mono (by have := hW.size; omega))
  have hz1 : W.heap.size ≤ w1.heap.size := g1.size
  have hnW : n₀ ≤ W.heap.size := by have := hW.size; omega
  clear c0 i0 h0 g1 hcW
  gi_wp2
  gi_loopw [17] (fun i wr => ∃ (k : Nat) (pre : List MkE), i = .int .i64 k ∧ k = pre.length ∧ k ≤ L.length ∧ RowKit.Hid (pre.map (·.1) = (L.take k).map (fR m)) ∧ J pre wr ∧ Below n₀ w wr ∧ Blk wr Bm 44 (msgA m (.slice a m.l.length c)) ∧ OwnS wr W.heap.size (.slice a1 L.length c1) L) (fun i _ => L.length - (intOf i).toNat)
  case atStart => exact ⟨0, [], rfl, rfl, Nat.zero_le _, Lib.hid rfl, hJ1, hB1, hcm1, r1⟩
  case round =>
    obtain ⟨k, pre, rfl, hkn, hkl, hpre, hJr, hB, hcb, hor⟩ := hrel
    have HKN := Lib.hid hkn
    clear hJ1 hB1 hcm1 r1 hkn
    by_cases hlt : k < L.length
    · obtain ⟨a', c', e, -, -, -, hcc⟩ := (Sl.of_own hor).open
      cases e
      obtain ⟨b, o, rfl, hcl⟩ := hcc (by omega)
      have hf := fun j hj => flat_get (f := specV) (k := 3) (fun _ => rfl) L k hlt j hj
      have x0 := hcl _ _ (hf 0 (by omega))
      have x1 := hcl _ _ (hf 1 (by omega))
      have x2 := hcl _ _ (hf 2 (by omega))
      simp only [Nat.add_zero, ← Nat.add_assoc] at x0 x1 x2
      have hnx : (L.take (k + 1)).map (fR m) = (L.take k).map (fR m) ++ [fR m L[k]] := by rw [List.take_succ_eq_append_getElem hlt, List.map_append]; rfl
      have hnm : ((L[k]).2.1 : Int) ≤ 9223372036854775807 := HNM.out _ (List.getElem_mem hlt)
      generalize L[k] = r at x0 x1 x2 hnx hnm
      obtain ⟨kd, nm, ty, sl, si⟩ := r
      obtain ⟨wa, hwa⟩ : ∃ wa, wa = wr.alloc (.cells #[.int .i64 nm, .int .i64 ty, .int .i64 sl] 55) := ⟨_, rfl⟩
      have ga : Grew wr wa := by rw [hwa]; exact grew_alloc _ _
      have hxb : Blk wa wr.heap.size 55 #[.int .i64 nm, .int .i64 ty, .int .i64 sl] := by rw [hwa]; exact Blk.new _ _ _
      have hcb2 := hcb.grew ga
      have hBa : Below n₀ w wa := Below.trans hB (ga.mono (by have := hB.size; omega))
      have KF := efield_any m a c nm ty sl wa HM.out ⟨by omega, hnm⟩ (HTX.out _ hBa)
      have hJ2 := hJ _ _ _ hJr ga
      have hor2 := own_grew hor ga
      have HNX := Lib.hid hnx
      have HX := Lib.hid hxb
      have HCB := Lib.hid hcb2
      have zi : (k : Int) < (L.length : Int) := by omega
      simp only [msgA] at KF
      clear hcl hf hcc hnx hxb ga hcb hB hJr hor hnm hcb2
      obtain ⟨c0, c1', c2, c3, c4, c5, c6, c7, c8, c9⟩ := mcells HCB.out
      have d0 := HX.out.cell 0
      have d1 := HX.out.cell 1
      have d2 := HX.out.cell 2
      simp only [List.getElem?_toArray, List.getElem?_cons_zero, List.getElem?_cons_succ] at d0 d1 d2
      rw [hwa] at c0 c1' c2 c3 c4 c5 c6 c7 c8 c9
      gi_wp2_with fail
      rw [← hwa]
      refine (callsIn_wide.2 KF).mono ?_
      clear x0 x1 x2 hwa c0 c1' c2 c3 c4 c5 c6 c7 c8 c9 d0 d1 d2 KF
      rintro e w3 ⟨v3, rfl, ho3, g3⟩
      obtain ⟨a3, n3, q3, rfl, hn3⟩ := bs_shape (Sl.of_own ho3)
      have hJ3 := hJ _ _ _ hJ2 g3
      have hok : OkE m L pre (fR m (kd, nm, ty, sl, si), .slice a3 n3 q3) w3 := ⟨by have := HKN.out; omega, by rw [← HKN.out, HNX.out, ← hpre.out, List.map_append]; rfl, Sl.of_own ho3⟩
      obtain ⟨fn, tmps, assign, body, hy, hR⟩ := hY _ _ _ hJ3 hok
      simp only [encE] at hy
      have hcb3 := HCB.out.grew g3
      have hor3 := own_grew hor2 g3
      have hB3 : Below n₀ w w3 := Below.trans hBa (g3.mono (by have := hBa.size; omega))
      clear hok hJ hJx hY hJ2 ho3 hor2 hBa hJ3
      gi_wp2_with fail
      refine hR.mono ?_
      rintro e w5 (⟨rfl, hJ5, hk5, hk6⟩ | ⟨rfl, hJx5⟩)
      · clear hy hR
        gi_wp2
        refine ⟨⟨k + 1, _, by go_num, by rw [List.length_append, ← HKN.out]; rfl, by omega, Lib.hid (by rw [HNX.out, ← hpre.out, List.map_append]; rfl), hJ5, Below.trans hB3 hk5, hk6.blk hcb3 (.inl rfl), hk6.own hor3 (.inr rfl)⟩, ?_⟩
        simp [intOf]; omega
      · clear hy hR
        gi_wp2
        refine bodyPost_ret (results_none rfl _ _ _) rfl ?_
        exact ⟨⟨_, rfl⟩, .inr ⟨_, trivial, hJx5⟩⟩
    · obtain rfl : k = L.length := by omega
      have hp := hpre.out
      rw [List.take_length] at hp
      have HP := Lib.hid hp
      clear hp hcb hor
      gi_wp2
      go_end0
      exact ⟨⟨_, rfl⟩, .inl ⟨pre, HP.out, hJr⟩⟩
end Go.Proofs.Ytcibhkiddeggmaa
