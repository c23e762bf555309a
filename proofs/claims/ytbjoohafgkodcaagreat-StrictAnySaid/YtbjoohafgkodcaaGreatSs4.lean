/- Package strict: each, Any: contracts. -/
import Derived.Test.YtbjoohafgkodcaaGreatSs3
import Derived.Test.YtbjoohafgkodcaaGreatItw
namespace Go.Proofs.YtbjoohafgkodcaaGreat
open Go Go.RowKit Go.Shelf
attribute [local go_sem] Oper.semAt_some

theorem kvs_len : kvs.length = 30 := by decide
theorem kvs_at : ∀ k : Fin 10, ∀ j : Fin 3, kvs[3 * k.val + j.val]? = some (k.val + 1, j.val + 1) := by decide
theorem kvs_next {k j : Nat} (hk1 : 1 ≤ k) (hk : k ≤ 10) (hj1 : 1 ≤ j) (hj : j ≤ 3) : kvs.take (3 * (k - 1) + (j + 1 - 1)) = kvs.take (3 * (k - 1) + (j - 1)) ++ [(k, j)] := by
  have h := kvs_at ⟨k - 1, by omega⟩ ⟨j - 1, by omega⟩
  simp only at h
  rw [show 3 * (k - 1) + (j + 1 - 1) = 3 * (k - 1) + (j - 1) + 1 by omega, List.take_add_one, h, show k - 1 + 1 = k by omega, show j - 1 + 1 = j by omega]; rfl
def encK (x : Nat × Nat) : Array Value := #[.int .u8 x.1, .int .i64 x.2]
theorem seach_any (w : World) : Calls Tryz.prog 31 #[] w fun e w' => e = .returned (.func (.func 53) #[] #[]) ∧ w' = w := by
  go_enter Tryz.func31, Tryz.ntmps31
  go_wp2
  go_ret
  exact ⟨rfl, rfl⟩
set_option maxRecDepth 100000 in
set_option maxHeartbeats 2000000 in
theorem seach_iter (w : World) :
    Iter Tryz.prog 53 #[] encK Grew (fun _ _ => True) (fun pre x => pre ++ [x] <+: kvs) (fun xs => xs = kvs) (fun pre => pre <+: kvs) w := by
  intro lp J Jx W hW hJ hJx hY h0
  refine callsIn_of_wp Tryz.func53 rfl trivial ?_ rfl
  simp only [Tryz.ntmps53, List.size_toArray, List.length_cons, List.length_nil, Nat.reduceAdd, Nat.reduceSub, Array.replicate_succ, Array.replicate_zero, List.push_toArray, List.append_toArray, List.nil_append, List.cons_append, List.append_nil]
  gi_wp2
  gi_loopw [2, 3] (fun i _ wr => ∃ k : Nat, 1 ≤ k ∧ k ≤ 11 ∧ i = .int .u8 k ∧ J (kvs.take (3 * (k - 1))) wr) (fun i _ _ => 12 - (intOf i).toNat)
  case atStart => exact ⟨1, Nat.le_refl _, by omega, rfl, h0⟩
  case round =>
    obtain ⟨k, hk1, hk, rfl, hJk⟩ := hrel
    clear hW h0
    by_cases hlt : k ≤ 10
    · have c1 : ((k : Nat) : Int) ≤ 10 := by omega
      gi_wp2
      gi_loopw [3] (fun i wr => ∃ j : Nat, 1 ≤ j ∧ j ≤ 4 ∧ i = .int .i64 j ∧ J (kvs.take (3 * (k - 1) + (j - 1))) wr) (fun i _ => 5 - (intOf i).toNat)
      case atStart => exact ⟨1, Nat.le_refl _, by omega, rfl, hJk⟩
      case round =>
        obtain ⟨j, hj1, hj, rfl, hJj⟩ := hrel
        clear hJk
        by_cases hl3 : j ≤ 3
        · have hsn := kvs_next hk1 hlt hj1 hl3
          have hok : kvs.take (3 * (k - 1) + (j - 1)) ++ [(k, j)] <+: kvs := by rw [← hsn]; exact List.take_prefix _ _
          obtain ⟨fn, tmps, assign, body, hy, hR⟩ := hY _ _ _ hJj hok
          simp only [encK] at hy
          have HSN := Lib.hid hsn
          have HOK := Lib.hid hok
          clear hsn hok hJj
          gi_wp2
          refine hR.mono ?_
          rintro e W3 (⟨rfl, hJ3, -⟩ | ⟨rfl, hJx3⟩)
          · rw [← HSN.out] at hJ3
            clear hy hR
            gi_wp2
            go_roundw
            case rel => exact ⟨j + 1, by omega, by omega, by go_num, hJ3⟩
            case measure => simp [intOf]; omega
          · clear hy hR
            gi_wp2
            refine bodyPost_ret (results_none rfl _ _ _) rfl ?_
            exact ⟨⟨_, rfl⟩, .inr ⟨_, HOK.out, hJx3⟩⟩
        · obtain rfl : j = 4 := by omega
          gi_wp2
          go_roundw
          case rel => exact ⟨k + 1, by omega, by omega, by go_num, by rw [show 3 * (k + 1 - 1) = 3 * (k - 1) + (4 - 1) by omega]; exact hJj⟩
          case measure => simp [intOf]; omega
    · obtain rfl : k = 11 := by omega
      have e : kvs.take (3 * (11 - 1)) = kvs := List.take_of_length_le (by rw [kvs_len]; omega)
      rw [e] at hJk
      clear e hY
      gi_wp2
      go_end0
      exact ⟨⟨_, rfl⟩, .inl ⟨_, rfl, hJk⟩⟩
def doneA (W : World) (n : Nat) (m : Msg) (lv : Value) (v : Int) (b : Bool) : World := ((chainW W (n + 1) m lv).setCell ⟨n + 1 + 1, 0, none⟩ (.int .i64 v)).setCell ⟨n + 1 + 1 + 1, 0, none⟩ (.bool b)
theorem doneA_facts {w W : World} {n : Nat} {m m0 : Msg} {lv lv0 x y : Value} {v : Int} {b : Bool} (hn : w.heap.size ≤ n) (h1 : Blk W (n + 1) 29 (msgA m0 lv0)) (h2 : Blk W (n + 1 + 1) 3 #[x]) (h3 : Blk W (n + 1 + 1 + 1) 4 #[y]) (ho : OwnT W w.heap.size lv m.l) (hg : Grew w W) :
    Blk (doneA W n m lv v b) (n + 1) 29 (msgA m lv) ∧ Blk (doneA W n m lv v b) (n + 1 + 1) 3 #[.int .i64 v] ∧ Blk (doneA W n m lv v b) (n + 1 + 1 + 1) 4 #[.bool b] ∧ OwnT (doneA W n m lv v b) w.heap.size lv m.l ∧ Grew w (doneA W n m lv v b) ∧ KeepsOthers W (doneA W n m lv v b) ∧
      (∀ k o, n + 1 + 1 + 1 < k → W.heap[k]? = some o → (doneA W n m lv v b).heap[k]? = some o) := by
  have n1 : lv.ownBlock ≠ some (n + 1) := fun e => blk_ne_row h1 ho (by decide) e.symm
  have n2 : lv.ownBlock ≠ some (n + 1 + 1) := fun e => blk_ne_row h2 ho (by decide) e.symm
  have n3 : lv.ownBlock ≠ some (n + 1 + 1 + 1) := fun e => blk_ne_row h3 ho (by decide) e.symm
  refine ⟨((chain_blk h1 m lv).other ⟨n + 1 + 1, 0, none⟩ _ (by simp)).other ⟨n + 1 + 1 + 1, 0, none⟩ _ (by simp), ((chain_other h2 (by omega) m lv).set 0 (.int .i64 v)).other ⟨n + 1 + 1 + 1, 0, none⟩ _ (by simp),
    ((chain_other h3 (by omega) m lv).other ⟨n + 1 + 1, 0, none⟩ _ (by simp)).set 0 (.bool b), own_set (own_set (chain_own ho n1 m lv) ⟨n + 1 + 1, 0, none⟩ _ n2) ⟨n + 1 + 1 + 1, 0, none⟩ _ n3,
    grew_set (grew_set (chain_below hg (by omega) m lv) (by omega) _) (by omega) _, ?_, ?_⟩
  · exact ((((((((((((KeepsOthers.setCell _ _ _).trans (KeepsOthers.setCell _ _ _)).trans (KeepsOthers.setCell _ _ _)).trans (KeepsOthers.setCell _ _ _)).trans (KeepsOthers.setCell _ _ _)).trans (KeepsOthers.setCell _ _ _)).trans (KeepsOthers.setCell _ _ _)).trans (KeepsOthers.setCell _ _ _)).trans (KeepsOthers.setCell _ _ _)).trans (KeepsOthers.setCell _ _ _)).trans (KeepsOthers.setCell _ _ _)).trans (KeepsOthers.setCell _ _ _))
  · intro k o hk ho
    exact (heap_setCell_other _ _ _ _ (by simp; omega)).trans ((heap_setCell_other _ _ _ _ (by simp; omega)).trans ((heap_setCell_other _ _ _ _ (by simp; omega)).trans ((heap_setCell_other _ _ _ _ (by simp; omega)).trans ((heap_setCell_other _ _ _ _ (by simp; omega)).trans ((heap_setCell_other _ _ _ _ (by simp; omega)).trans ((heap_setCell_other _ _ _ _ (by simp; omega)).trans ((heap_setCell_other _ _ _ _ (by simp; omega)).trans ((heap_setCell_other _ _ _ _ (by simp; omega)).trans ((heap_setCell_other _ _ _ _ (by simp; omega)).trans ((heap_setCell_other _ _ _ _ (by simp; omega)).trans ((heap_setCell_other _ _ _ _ (by simp; omega)).trans (ho))))))))))))
/-- what Any returns -/
def AnyP (l : List UInt8) (w : World) (e : Ending) (w' : World) : Prop :=
  ∃ lv, e = .returned (.tuple #[.agg (msgA (anyM l).1 lv), .int .i64 ((anyM l).2.1 : Nat), .bool (anyM l).2.2]) ∧ OwnT w' w.heap.size lv (anyM l).1.l ∧ Grew w w'
def okK (l : List UInt8) (p : Nat × Nat) : Bool := (strM p.1 (p.2 : Int) l).2.1 == 0
theorem any_some {l : List UInt8} {p : Nat × Nat} (h : kvs.find? (okK l) = some p) : anyM l = ((strM p.1 (p.2 : Int) l).1, p.2, true) := by
  unfold anyM
  rw [show (fun p : Nat × Nat => (strM p.1 (p.2 : Int) l).2.1 == 0) = okK l from rfl, h]
theorem any_none {l : List UInt8} (h : kvs.find? (okK l) = none) : anyM l = (mZ, 0, false) := by
  unfold anyM
  rw [show (fun p : Nat × Nat => (strM p.1 (p.2 : Int) l).2.1 == 0) = okK l from rfl, h]
theorem loadVar_int9 (w : World) (b : Nat) (v : Value) (h : Blk w b 3 #[v]) : (loadVar 3 ⟨b, 0, none⟩).run Tryz.prog w = .ok v w := by
  have := h.cell 0
  simp at this
  unfold loadVar
  simp [go_sem, this]
/-- what holds when a round of Any begins -/
def AnyI (l : List UInt8) (v : Value) (w : World) (pre : List (Nat × Nat)) (W : World) : Prop :=
  pre.find? (okK l) = none ∧ Blk W w.heap.size 22 #[v] ∧ Blk W (w.heap.size + 1) 29 (msgA mZ (.slice none 0 0)) ∧ Blk W (w.heap.size + 1 + 1) 3 #[.int .i64 0] ∧ Blk W (w.heap.size + 1 + 1 + 1) 4 #[.bool false] ∧ Grew w W
/-- .. when one has ended it -/
def AnyX (l : List UInt8) (w : World) (c : Code) (pre : List (Nat × Nat)) (W : World) : Prop :=
  c = .ret ∧ ∃ p lv, pre.find? (okK l) = some p ∧ Blk W (w.heap.size + 1) 29 (msgA (strM p.1 (p.2 : Int) l).1 lv) ∧ Blk W (w.heap.size + 1 + 1) 3 #[.int .i64 (p.2 : Nat)] ∧ Blk W (w.heap.size + 1 + 1 + 1) 4 #[.bool true] ∧ OwnT W w.heap.size lv (strM p.1 (p.2 : Int) l).1.l ∧ Grew w W
theorem AnyI.grew {l : List UInt8} {v : Value} {w : World} {pre : List (Nat × Nat)} {A B : World} (h : AnyI l v w pre A) (e : Grew A B) : AnyI l v w pre B :=
  ⟨h.1, h.2.1.grew e, h.2.2.1.grew e, h.2.2.2.1.grew e, h.2.2.2.2.1.grew e, Grew.trans h.2.2.2.2.2 e⟩
theorem AnyI.ck {l : List UInt8} {v : Value} {w : World} {pre : List (Nat × Nat)} {n : Nat} {A B : World} (h : AnyI l v w pre A) (e : CK n A B) (hn : w.heap.size ≤ n) : AnyI l v w pre B :=
  ⟨h.1, e.blk h.2.1, e.blk h.2.2.1, e.blk h.2.2.2.1, e.blk h.2.2.2.2.1, e.below h.2.2.2.2.2 hn⟩
theorem AnyX.grew {l : List UInt8} {w : World} {c : Code} {pre : List (Nat × Nat)} {A B : World} (h : AnyX l w c pre A) (e : Grew A B) : AnyX l w c pre B := by
  obtain ⟨h0, p, lv, h1, h2, h3, h4, h5, h6⟩ := h
  exact ⟨h0, p, lv, h1, h2.grew e, h3.grew e, h4.grew e, own_grew h5 e, Grew.trans h6 e⟩
theorem AnyX.ck {l : List UInt8} {w : World} {c : Code} {pre : List (Nat × Nat)} {n : Nat} {A B : World} (h : AnyX l w c pre A) (e : CK n A B) (hn : w.heap.size ≤ n) : AnyX l w c pre B := by
  obtain ⟨h0, p, lv, h1, h2, h3, h4, h5, h6⟩ := h
  exact ⟨h0, p, lv, h1, e.blk h2, e.blk h3, e.blk h4, e.own h5, e.below h6 hn⟩
set_option maxRecDepth 100000 in
set_option maxHeartbeats 8000000 in
theorem sany_any (l : List UInt8) (v : Value) (w : World) (hb : Bs w v l) (hlen : l.length ≤ 1000000) :
    Calls Tryz.prog 11 #[v] w (AnyP l w) := by
  obtain ⟨a, c, rfl⟩ := bs_len hb
  have HB := Lib.hid hb
  obtain ⟨W0, hW0⟩ : ∃ W0, W0 = (((w.alloc (.cells #[.slice a l.length c] 22)).alloc (.cells zMsg 29)).alloc (.cells #[.int .i64 0] 3)).alloc (.cells #[.bool false] 4) := ⟨_, rfl⟩
  have k0 : Blk W0 w.heap.size 22 #[.slice a l.length c] := by rw [hW0]; exact (((Blk.new _ _ _).alloc _).alloc _).alloc _
  have k1 : Blk W0 (w.heap.size + 1) 29 (msgA mZ (.slice none 0 0)) := by rw [hW0]; exact ((Blk.at (by simp)).alloc _).alloc _
  have k2 : Blk W0 (w.heap.size + 1 + 1) 3 #[.int .i64 0] := by rw [hW0]; exact (Blk.at (by simp)).alloc _
  have k3 : Blk W0 (w.heap.size + 1 + 1 + 1) 4 #[.bool false] := by rw [hW0]; exact Blk.at (by simp)
  have g0 : Grew w W0 := by rw [hW0]; exact ((((Below.refl _ _).alloc (Nat.le_refl _) _).alloc (by simp) _).alloc (by simp; omega) _).alloc (by simp; omega) _
  have hz : W0.heap.size = w.heap.size + 1 + 1 + 1 + 1 := by rw [hW0]; simp
  have HI := Lib.hid (show AnyI l (.slice a l.length c) w [] W0 from ⟨rfl, k0, k1, k2, k3, g0⟩)
  have HZ := Lib.hid hz
  simp only [zMsg] at hW0
  clear k0 k1 k2 k3 g0 hz hb
  refine (callsIn_wide (n := 0)).1 (callsIn_of_wp_marks Tryz.func11 rfl trivial ?_ rfl)
  simp only [Tryz.ntmps11, List.size_toArray, List.length_cons, List.length_nil, Nat.reduceAdd, Nat.reduceSub, Array.replicate_succ, Array.replicate_zero, List.push_toArray, List.append_toArray, List.nil_append, List.cons_append]
  gi_wp2_with (gi_at_call 31; refine (callsIn_wide.2 (seach_any _)).mono ?_; rintro e w1 ⟨rfl, rfl⟩)
  rw [← hW0]
  clear hW0
  refine wpIn_iter (gf := 53) (lb := #[]) rfl (enters_of Tryz.func53 (by kernel_rfl) rfl)
    (seach_iter _) (fun A B e => keepsOthers_grew e) (fun _ _ _ _ _ _ _ => trivial) (fun _ => rfl)
    (AnyI l (.slice a l.length c) w) (AnyX l w) (fun pre A B h e => h.grew e) (fun pre A B h hc => h.ck hc (by have := HZ.out; omega)) (fun _ _ _ _ h e => h.grew e) (fun _ _ _ _ h hc => h.ck hc (by have := HZ.out; omega))
    HI.out ?round ?done ?stop
  case stop =>
    rintro cc pre W hs ⟨rfl, p, lv, h1, h2, h3, h4, h5, h6⟩ hD
    have hf := any_some (find_prefix hs h1)
    rw [HZ.out] at hD ⊢
    gi_wp2
    have hck := CK.putObj (w.heap.size + 1 + 1 + 1 + 1) W _ _ (.deferred none) hD rfl (Nat.le_refl _)
    refine ⟨by simp, .inl ⟨_, _, rfl, run_takeDeferred hD, ?_⟩⟩
    refine ⟨_, results_ccc rfl _ _ _ _ _ _ _ _ rfl rfl rfl (loadVar_msg _ _ _ _ (hck.blk h2)) (loadVar_int9 _ _ _ (hck.blk h3)) (loadVar_bool _ _ _ (hck.blk h4)), ?_⟩
    unfold AnyP
    rw [hf]
    exact ⟨lv, rfl, hck.own h5, Below.trans h6 (hck.toBelow (by omega))⟩
  case round =>
    rintro lp pre ⟨k, v⟩ W hi hok
    simp only [encK]
    gi_wp2
    refine ⟨trivial, ?_⟩
    rintro W2 hck hsz ⟨h0, h1, h2, h3, h4, h5⟩
    have KD := Lib.hid (sdecode_any k (v : Int) l _ W2 (HB.out.grew h5) hlen)
    obtain ⟨Z, hZ⟩ : ∃ Z, Z = strM k (v : Int) l := ⟨_, rfl⟩
    have hokk : okK l (k, v) = (Z.2.1 == 0) := by rw [hZ]; rfl
    unfold StrP at KD
    rw [← hZ] at KD
    have c1 := h1.cell 0
    simp only [List.getElem?_toArray, List.getElem?_cons_zero] at c1
    have HF := Lib.hid h0
    have H1 := Lib.hid h1
    have H2 := Lib.hid h2
    have H3 := Lib.hid h3
    have H4 := Lib.hid h4
    have H5 := Lib.hid h5
    have HZZ := Lib.hid hZ
    have HOK := Lib.hid hokk
    clear hi hok hck hsz h0 h1 h2 h3 h4 h5 hZ hokk
    gi_wp2_with fail
    refine (calls_open (open_round _) KD.out).mono ?_
    rintro e w3 ⟨lv, rfl, ho, g3⟩
    obtain ⟨al, cl, rfl⟩ := tx_len (Sl.of_own ho)
    simp only [fltI]
    obtain ⟨wa, hwa⟩ : ∃ wa, wa = (w3.alloc (.cells (msgA Z.1 (.slice al Z.1.l.length cl)) 29)).alloc (.cells #[.int .i64 (Z.2.1 : Nat), .int .i64 Z.2.2] 32) := ⟨_, rfl⟩
    have ga : Grew w3 wa := by rw [hwa]; exact ((Below.refl _ _).alloc (Nat.le_refl _) _).alloc (by simp) _
    have G9 := Lib.hid (g3.trans ga)
    have HO := Lib.hid (own_mono (own_grew ho ga) H5.out.size)
    have HWA := Lib.hid hwa
    simp only [msgA] at hwa ⊢
    have HWA2 := Lib.hid hwa
    clear c1 ho g3 ga hwa
    by_cases hE : Z.2.1 = 0
    · have qe : (((Z.2.1 : Nat) : Int) == 0) = true := by simp [hE]
      have HE := Lib.hid hE
      clear hE
      have B1 := Lib.hid (H2.out.grew G9.out)
      have B2 := Lib.hid (H3.out.grew G9.out)
      have B3 := Lib.hid (H4.out.grew G9.out)
      have fz := fun j => (B1.out).frozen j
      have f0 := fz 0
      have f1 := fz 1
      have f2 := fz 2
      have f3 := fz 3
      have f4 := fz 4
      have f5 := fz 5
      have f6 := fz 6
      have f7 := fz 7
      have f8 := fz 8
      have f9 := fz 9
      obtain ⟨o0, o1, o2, o3, o4, o5, o6, o7, o8, o9⟩ := mcells B1.out
      have u0 := B2.out.cell 0
      have u1 := B2.out.frozen 0
      have u2 := B3.out.cell 0
      have u3 := B3.out.frozen 0
      simp only [List.getElem?_toArray, List.getElem?_cons_zero] at u0 u2
      clear fz
      rw [HWA2.out] at f0 f1 f2 f3 f4 f5 f6 f7 f8 f9 o0 o1 o2 o3 o4 o5 o6 o7 o8 o9 u0 u1 u2 u3
      gi_wp2
      rw [← HWA2.out]
      obtain ⟨d1, d2, d3, d4, d5, d6, -⟩ := doneA_facts (v := (v : Int)) (b := true) (Nat.le_refl _) B1.out B2.out B3.out HO.out (Grew.trans H5.out G9.out)
      refine ⟨(keepsOthers_grew G9.out).trans d6, rfl, (k, v), .slice al Z.1.l.length cl, ?_, ?_⟩
      · rw [List.find?_append, HF.out]
        simp [HOK.out, HE.out]
      · rw [← HZZ.out]
        exact ⟨d1, d2, d3, d4, d5⟩
    · have qe : (((Z.2.1 : Nat) : Int) == 0) = false := by simp [hE]
      have HE := Lib.hid hE
      clear hE
      gi_wp2
      rw [← HWA2.out]
      refine ⟨keepsOthers_grew G9.out, trivial, ?_, H1.out.grew G9.out, H2.out.grew G9.out, H3.out.grew G9.out, H4.out.grew G9.out, Grew.trans H5.out G9.out⟩
      rw [List.find?_append, HF.out]
      simp [HOK.out, HE.out]
  case done =>
    rintro xs W rfl ⟨h0, h1, h2, h3, h4, h5⟩ hD
    have fz := fun j => h2.frozen j
    have f0 := fz 0
    have f1 := fz 1
    have f2 := fz 2
    have f3 := fz 3
    have f4 := fz 4
    have f5 := fz 5
    have f6 := fz 6
    have f7 := fz 7
    have f8 := fz 8
    have f9 := fz 9
    obtain ⟨o0, o1, o2, o3, o4, o5, o6, o7, o8, o9⟩ := mcells h2
    have u0 := h3.cell 0
    have u1 := h3.frozen 0
    have u2 := h4.cell 0
    have u3 := h4.frozen 0
    simp only [List.getElem?_toArray, List.getElem?_cons_zero] at u0 u2
    rw [HZ.out] at hD ⊢
    have H0 := Lib.hid h0
    have H2 := Lib.hid h2
    have H3 := Lib.hid h3
    have H4 := Lib.hid h4
    have H5 := Lib.hid h5
    have HD := Lib.hid hD
    clear fz h0 h1 h2 h3 h4 h5 hD
    gi_wp2
    obtain ⟨d1, d2, d3, d4, d5, -, d7⟩ := doneA_facts (m := mZ) (lv := .slice none 0 0) (v := 0) (b := false) (Nat.le_refl _) H2.out H3.out H4.out (World.ownsRow_nil _ _ _ _) H5.out
    have hD9 := d7 _ _ (by omega) HD.out
    have hck := CK.putObj (w.heap.size + 1 + 1 + 1 + 1) _ _ _ (.deferred none) hD9 rfl (Nat.le_refl _)
    refine ⟨by simp, .inl ⟨_, _, rfl, run_takeDeferred hD9, ?_⟩⟩
    refine ⟨_, results_ccc rfl _ _ _ _ _ _ _ _ rfl rfl rfl (loadVar_msg _ _ _ _ (hck.blk d1)) (loadVar_int9 _ _ _ (hck.blk d2)) (loadVar_bool _ _ _ (hck.blk d3)), ?_⟩
    unfold AnyP
    rw [any_none H0.out]
    exact ⟨_, rfl, hck.own d4, Below.trans d5 (hck.toBelow (by omega))⟩
end Go.Proofs.YtbjoohafgkodcaaGreat
