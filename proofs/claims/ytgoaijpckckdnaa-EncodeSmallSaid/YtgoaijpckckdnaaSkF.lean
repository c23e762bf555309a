/- skip.Fields: contract. ; skip.each: the iterator over the fields of bytes. -/
import Derived.Test.YtgoaijpckckdnaaSkO
import Derived.Test.YtgoaijpckckdnaaItw
import Derived.Test.YtgoaijpckckdnaaTch
namespace Go.Proofs.Ytgoaijpckckdnaa
open Go Go.RowKit Go.Shelf
attribute [local go_sem] Oper.semAt_some

/-- what is yielded: a place, and the payload's slice value -/
abbrev MkF := Nat × Value
def encF (l : List UInt8) (x : MkF) : Array Value := #[fldA (oneR l x.1).1 x.2, faultV (oneR l x.1).2.1 (oneR l x.1).2.2.1]
/-- the place behind those -/
def nextF (l : List UInt8) (pre : List MkF) : Nat := (pre.getLast?.map fun x => (oneR l x.1).2.2.2).getD 0
theorem nextF_nil (l : List UInt8) : nextF l [] = 0 := rfl
theorem nextF_snoc (l : List UInt8) (pre : List MkF) (x : MkF) : nextF l (pre ++ [x]) = (oneR l x.1).2.2.2 := by simp [nextF]
def goodF (l : List UInt8) (pre : List MkF) : Prop := ∀ x ∈ pre, (oneR l x.1).2.1 = 0
def OkF (l : List UInt8) (n₀ : Nat) (pre : List MkF) (x : MkF) (W : World) : Prop := x.1 < l.length ∧ x.1 = nextF l pre ∧ PayV W n₀ x.2 (fB (oneR l x.1).1)
/-- types that a round leaves alone -/
def SkT (t : TypeId) : Prop := t = 137 ∨ t = 5 ∨ t = 22 ∨ t = 27
instance (t : TypeId) : Decidable (SkT t) := by unfold SkT; infer_instance

theorem skeach_any (a : Option Addr) (n c : Nat) (w : World) : Calls Try.prog 59 #[.slice a n c] w fun e w' => e = .returned (.func (.func 103) #[] #[.pointer (some ⟨w.heap.size, 0, none⟩)]) ∧ w' = w.alloc (.cells #[.slice a n c] 22) := by
  go_enter Try.func59, Try.ntmps59
  go_wp2
  go_ret
  exact ⟨rfl, rfl⟩

set_option maxRecDepth 100000 in
set_option maxHeartbeats 2000000 in
theorem skip_iter (l : List UInt8) (v : Value) (Bn n₀ : Nat) (w : World) (hn : n₀ ≤ w.heap.size) (hc : Blk w Bn 22 #[v]) (hs : Bs w v l) (hlen : l.length ≤ 1000000000) :
    IterW Try.prog 103 #[.pointer (some ⟨Bn, 0, none⟩)] (encF l) (Tch (· = 137) n₀) (KeepT SkT) (OkF l n₀) (fun xs => l.length ≤ nextF l xs ∨ ¬ goodF l xs) (fun _ => True) w := by
  intro lp J Jx W hW hJ hJx hY h0
  have hcW := hc.grew hW
  have hbW := hs.grew hW
  have c0 := hcW.cell 0
  simp only [List.getElem?_toArray, List.getElem?_cons_zero] at c0
  obtain ⟨a, cap, rfl, h1, h2, -, -⟩ := hbW.open
  refine callsIn_of_wp Try.func103 rfl trivial ?_ rfl
  simp only [Try.ntmps103, List.size_toArray, List.length_cons, List.length_nil, Nat.reduceAdd, Nat.reduceSub, Array.replicate_succ, Array.replicate_zero, List.push_toArray, List.append_toArray, List.nil_append, List.cons_append]
  refine wpIn_scope_wide ?_
  gi_wp2_with fail
  refine (callsIn_wide.2 (inew_any l _ _ hbW (by omega))).mono ?_
  rintro e w1 ⟨p, v0, rfl, hp, hI, ho, g1⟩
  have hJ1 := hJ _ _ _ h0 (Tch.of_grew g1 (by have := hW.size; omega))
  have hn1 : n₀ ≤ w1.heap.size := by have := hW.size; have := g1.size; omega
  have hn2 : n₀ ≤ W.heap.size := by have := hW.size; omega
  have HO := Lib.hid ho
  have G1 := Lib.hid g1
  clear hcW hbW c0 h0 ho g1
  gi_wp2
  refine wpIn_label ?_
  gi_wp2
  gi_loopw [8] (fun _ wr => ∃ (k : Nat) (pre : List MkF), k = nextF l pre ∧ k ≤ l.length ∧ goodF l pre ∧ J pre wr ∧ InI (· = v0) wr p l k ∧ OwnB wr W.heap.size v0 l ∧ w1.heap.size ≤ wr.heap.size) (fun _ wr => l.length - offOf wr p)
  case atStart => exact ⟨0, [], rfl, Nat.zero_le _, (fun x h => by cases h), hJ1, hI, HO.out, Nat.le_refl _⟩
  case round =>
    obtain ⟨k, pre, hkn, hkl, hgd, hJr, hIr, hor, hzr⟩ := hrel
    have HOFF := Lib.hid (offOf_in hIr)
    have HKN := Lib.hid hkn
    clear hkn
    gi_wp2_with fail
    refine (callsIn_wide.2 (left_any l p k _ hIr)).mono ?_
    rintro e w2 ⟨rfl, g2⟩
    have hg2 := g2.grew
    have hI2 := hIr.grew hg2
    have hJ2 := hJ _ _ _ hJr (Tch.of_grew hg2 (by omega))
    have ho2 := own_grew hor hg2
    have hz2 := hg2.size
    clear hIr hJr hor
    by_cases hlt : k < l.length
    · gi_wp2_with fail
      refine (callsIn_wide.2 (skone_any l p k hlen _ hI2)).mono ?_
      obtain ⟨X, hX⟩ : ∃ X, X = oneR l k := ⟨_, rfl⟩
      rw [← hX]
      rintro e w3 ⟨pv, rfl, hpo, hI3, hF3⟩
      have hp1 := PayV.of_own hpo
      obtain ⟨a1, n1, c1, rfl, hn1'⟩ := hp1.shape
      have ho3 := own_fr ho2 hF3 (fun g hg e => blk_ne_row hI2.choose_spec.1 ho2 (by decide) (by rw [hg, e]))
      have g4 : Grew w3 ((w3.alloc (.cells #[.int .i64 X.1.1, .int .u8 (X.1.2.1 : Nat), .int .u64 (X.1.2.2.1 : Nat), .slice a1 n1 c1, .int .i64 X.1.2.2.2.2] 39)).alloc (.cells #[.int .i64 (X.2.1 : Nat), .int .i64 (X.2.2.1 : Nat)] 27)) := ((Below.refl _ _).alloc (Nat.le_refl _) _).alloc (by simp) _
      have hz3 := hF3.size
      have hJ4 := hJ _ _ _ (hJ _ _ _ hJ2 (Tch.of_fr hF3 hI2.choose_spec.1 rfl (by omega))) (Tch.of_grew g4 (by omega))
      have hok : OkF l n₀ pre (k, .slice a1 n1 c1) _ := ⟨hlt, HKN.out, by show PayV _ _ _ (fB (oneR l k).1); rw [← hX]; exact (hp1.grew g4).mono (by omega)⟩
      obtain ⟨fn, tmps, assign, body, hy, hR⟩ := hY _ _ _ hJ4 hok
      simp only [encF, ← hX] at hy
      have HX := Lib.hid hX
      have hI4 := hI3.grew g4
      have ho4 := own_grew ho3 g4
      have hz4 := g4.size
      have f4 : Blk ((w3.alloc (.cells #[.int .i64 X.1.1, .int .u8 (X.1.2.1 : Nat), .int .u64 (X.1.2.2.1 : Nat), .slice a1 n1 c1, .int .i64 X.1.2.2.2.2] 39)).alloc (.cells #[.int .i64 (X.2.1 : Nat), .int .i64 (X.2.2.1 : Nat)] 27)) (w3.heap.size + 1) 27 #[.int .i64 (X.2.1 : Nat), .int .i64 (X.2.2.1 : Nat)] := Blk.at (by simp)
      clear hX hJ hJx hY hok hJ2 hI3 ho3 hpo hp1 hI2 ho2
      gi_wp2_with fail
      refine hR.mono ?_
      rintro e w5 (⟨rfl, hJ5, hk5⟩ | ⟨rfl, hJx5⟩)
      · have f5 := hk5.blk f4 (.inr (.inr (.inr rfl)))
        have s0 := f5.cell 0
        simp only [List.getElem?_toArray, List.getElem?_cons_zero] at s0
        have ho5 := hk5.own ho4 (.inr (.inl rfl))
        obtain ⟨v9, hb4, hb4', hle, e9⟩ := id hI4
        rw [e9] at hb4
        have hI5 : InI (· = v0) w5 p l X.2.2.2 := ⟨_, hk5.blk hb4 (.inl rfl), Sl.of_own ho5, hle, rfl⟩
        have hz5 := hk5.1
        have hof5 := offOf_in hI5
        clear hy hR f4 f5 hI4 ho4 hb4 hb4' e9
        by_cases he : X.2.1 = 0
        · have ho := oneR_ok l k hkl (by rw [← HX.out]; exact he)
          rw [← HX.out] at ho
          have h3 := ho.2.2.1
          have HE := Lib.hid he
          rw [he] at s0
          replace s0 : w5.cell? ⟨w3.heap.size + 1, 0, none⟩ = some (.int .i64 0) := s0
          clear ho he
          gi_wp2
          refine ⟨⟨X.2.2.2, pre ++ [(k, .slice a1 n1 c1)], by rw [nextF_snoc]; simp only [← HX.out], hle, ?_, hJ5, hI5, ho5, by omega⟩, ?_⟩
          · intro x hx
            rcases List.mem_append.1 hx with hx | hx
            · exact hgd x hx
            · obtain rfl := List.mem_singleton.1 hx
              simp only [← HX.out]; exact HE.out
          · rw [hof5, HOFF.out]; omega
        · have hne : ((X.2.1 : Int) != 0) = true := by simp; omega
          have HE := Lib.hid he
          clear he hof5
          gi_wp2
          rw [Exit.noGoto_normal]
          go_end0
          exact ⟨⟨_, rfl⟩, .inl ⟨_, .inr (fun h => HE.out (by have := h (k, .slice a1 n1 c1) (by simp); simpa only [← HX.out] using this)), hJ5⟩⟩
      · clear hy hR
        gi_wp2
        rw [Exit.noGoto_normal]
        go_end0
        exact ⟨⟨_, rfl⟩, .inr ⟨_, trivial, hJx5⟩⟩
    · obtain rfl : k = l.length := by omega
      gi_wp2
      rw [Exit.noGoto_normal]
      go_end0
      exact ⟨⟨_, rfl⟩, .inl ⟨pre, .inl (by rw [← HKN.out]; exact Nat.le_refl _), hJ2⟩⟩
end Go.Proofs.Ytgoaijpckckdnaa
namespace Go.Proofs.Ytgoaijpckckdnaa
open Go Go.RowKit Go.Shelf
attribute [local go_sem] Oper.semAt_some

/-- what the rounds leave: block w.heap.size: the result; + 1: the fault; + 2: the row -/
def FieldsI (l : List UInt8) (w : World) (pre : List MkF) (W : World) : Prop := ∃ (v : Value) (ps : List FFV),
  Blk W w.heap.size 24 #[.slice none 0 0] ∧ Blk W (w.heap.size + 1) 27 #[.int .i64 0, .int .i64 0] ∧ Blk W (w.heap.size + 1 + 1) 24 #[v] ∧ FieldsV W w.heap.size v ps ∧ Grew w W ∧
  goodF l pre ∧ nextF l pre ≤ l.length ∧ ps.length ≤ nextF l pre ∧ RowKit.Hid (fieldsAt l 0 = joinF (ps.map (·.1)) (fieldsAt l (nextF l pre)))
def FieldsX (l : List UInt8) (w : World) (c : Code) (_pre : List MkF) (W : World) : Prop := c = .ret ∧ ∃ e at_ : Nat,
  Blk W w.heap.size 24 #[.slice none 0 0] ∧ Blk W (w.heap.size + 1) 27 #[.int .i64 e, .int .i64 at_] ∧ Grew w W ∧ RowKit.Hid (fieldsAt l 0 = ([], e, at_))
theorem FieldsI.tch {l : List UInt8} {w : World} {pre : List MkF} {A B : World} (h : FieldsI l w pre A) (e : Tch (· = 137) w.heap.size A B) : FieldsI l w pre B := by
  obtain ⟨v, ps, h1, h2, h3, h4, h5, h6⟩ := h
  exact ⟨v, ps, e.blk h1 (by decide), e.blk h2 (by decide), e.blk h3 (by decide), h4.tch e (by decide) (by decide), Below.trans h5 e.below, h6⟩
theorem FieldsI.ck {l : List UInt8} {w : World} {pre : List MkF} {n : Nat} {A B : World} (h : FieldsI l w pre A) (e : CK n A B) (hn : w.heap.size ≤ n) : FieldsI l w pre B := by
  obtain ⟨v, ps, h1, h2, h3, h4, h5, h6⟩ := h
  exact ⟨v, ps, e.blk h1, e.blk h2, e.blk h3, h4.ck e, e.below h5 hn, h6⟩
theorem FieldsX.tch {l : List UInt8} {w : World} {c : Code} {pre : List MkF} {A B : World} (h : FieldsX l w c pre A) (e : Tch (· = 137) w.heap.size A B) : FieldsX l w c pre B := by
  obtain ⟨hc, x, y, h1, h2, h5, h6⟩ := h
  exact ⟨hc, x, y, e.blk h1 (by decide), e.blk h2 (by decide), Below.trans h5 e.below, h6⟩
theorem FieldsX.ck {l : List UInt8} {w : World} {c : Code} {pre : List MkF} {n : Nat} {A B : World} (h : FieldsX l w c pre A) (e : CK n A B) (hn : w.heap.size ≤ n) : FieldsX l w c pre B := by
  obtain ⟨hc, x, y, h1, h2, h5, h6⟩ := h
  exact ⟨hc, x, y, e.blk h1, e.blk h2, e.below h5 hn, h6⟩
theorem loadVar_flds (w : World) (b : Nat) (v : Value) (h : Blk w b 24 #[v]) : (loadVar 24 ⟨b, 0, none⟩).run Try.prog w = .ok v w := by
  have := h.cell 0
  simp at this
  unfold loadVar
  simp [go_sem, this]

set_option maxRecDepth 100000 in
set_option maxHeartbeats 4000000 in
theorem sfields_any (l : List UInt8) (v : Value) (w : World) (hb : Bs w v l) (hlen : l.length ≤ 1000000000) :
    Calls Try.prog 17 #[v] w fun e w' => ∃ v', e = .returned (.tuple #[v', faultV (fieldsR l).2.1 (fieldsR l).2.2]) ∧ FlO w' w.heap.size v' (fieldsR l).1 ∧ Grew w w' := by
  obtain ⟨a, c, rfl⟩ := bs_len hb
  refine (callsIn_wide (n := 0)).1 (callsIn_of_wp_marks Try.func17 rfl trivial ?_ rfl)
  simp only [Try.ntmps17, List.size_toArray, List.length_cons, List.length_nil, Nat.reduceAdd, Nat.reduceSub, Array.replicate_succ, Array.replicate_zero, List.push_toArray, List.append_toArray, List.nil_append, List.cons_append]
  gi_wp2_with (gi_at_call 59; refine (callsIn_wide.2 (skeach_any _ _ _ _)).mono ?_; rintro e w1 ⟨rfl, rfl⟩)
  obtain ⟨w0, hw0⟩ : ∃ w0, w0 = (((w.alloc (.cells #[.slice none 0 0] 24)).alloc (.cells #[.int .i64 0, .int .i64 0] 27)).alloc (.cells #[.slice none 0 0] 24)) := ⟨_, rfl⟩
  have gw0 : Grew w w0 := by rw [hw0]; exact (((Below.refl _ _).alloc (Nat.le_refl _) _).alloc (by simp) _).alloc (by simp; omega) _
  have hz0 : w0.heap.size = w.heap.size + 1 + 1 + 1 := by rw [hw0]; simp
  have k0 : Blk w0 w.heap.size 24 #[.slice none 0 0] := by rw [hw0]; exact ((Blk.new _ _ _).alloc _).alloc _
  have k1 : Blk w0 (w.heap.size + 1) 27 #[.int .i64 0, .int .i64 0] := by rw [hw0]; exact (Blk.at (by simp)).alloc _
  have k2 : Blk w0 (w.heap.size + 1 + 1) 24 #[.slice none 0 0] := by rw [hw0]; exact Blk.at (by simp)
  try rw [← hw0]
  try rw [← hz0]
  have gb := grew_alloc w0 (.cells #[.slice a l.length c] 22)
  refine wpIn_iterW (gf := 103) (lb := #[.pointer (some ⟨w0.heap.size, 0, none⟩)]) rfl (enters_of Try.func103 (by kernel_rfl) rfl)
    (skip_iter l (.slice a l.length c) w0.heap.size w.heap.size _ (by have := gw0.size; simp; omega) (Blk.new _ _ _) (hb.grew (gw0.trans gb)) hlen)
    (fun A B e => e.keeps) (fun A B C h1 h2 => h1.ck h2) (fun _ => rfl)
    (FieldsI l w) (FieldsX l w) (fun pre A B h e => h.tch e) (fun pre A B h hc => h.ck hc (by have := gw0.size; simp; omega)) (fun _ _ _ _ h e => h.tch e) (fun _ _ _ _ h hc => h.ck hc (by have := gw0.size; simp; omega))
    ⟨_, [], k0.grew gb, k1.grew gb, k2.grew gb, FieldsV.nil _ _, gw0.trans gb, (fun x h => by cases h), Nat.zero_le _, Nat.zero_le _, by show _ = _; rw [nextF_nil]; exact joinF_nil.symm⟩ ?round ?done ?stop
  case stop =>
    rintro cd pre W - ⟨rfl, ee, at_, h1, h2, h3, h4⟩ hD
    gi_wp2
    simp only [World.size_alloc] at hD ⊢
    have hck := CK.putObj w.heap.size W _ _ (.deferred none) hD rfl (by omega)
    refine ⟨by simp, .inl ⟨_, _, rfl, run_takeDeferred hD, ?_⟩⟩
    refine ⟨_, results_cc rfl _ _ _ _ _ _ rfl rfl (loadVar_flds _ _ _ (hck.blk h1)) (loadVar_fault _ _ _ rfl (hck.blk h2)), ?_⟩
    rw [show fieldsR l = fieldsAt l 0 from rfl, h4.out]
    exact ⟨_, rfl, FlO.nil _ _, Below.trans h3 (hck.toBelow (by omega))⟩
  case done =>
    rintro xs W hS ⟨v, ps, h0, h1, h2, h3, h4, h5, h6, h7, h8⟩ hD
    have hSl : l.length ≤ nextF l xs := by
      rcases hS with h | h
      · exact h
      · exact absurd h5 h
    rw [show fieldsAt l 0 = fieldsR l from rfl, joinF_end _ hSl] at h8
    obtain ⟨a9, n9, c9, rfl, hn9⟩ : ∃ a n c, v = .slice a n c ∧ True := by obtain ⟨a, c, e, _⟩ := (Sl.of_own h3.1).open; exact ⟨a, _, c, e, trivial⟩
    have c0 := h0.cell 0
    have c2 := h2.cell 0
    have f0 := h0.frozen 0
    obtain ⟨u0, u1, u2, u3⟩ := cells_of h1
    simp only [List.getElem?_toArray, List.getElem?_cons_zero] at c0 c2
    have H0 := Lib.hid h0
    have H1 := Lib.hid h1
    have H2 := Lib.hid h2
    clear h0 h1 h2 hS hSl h5 h6 h7
    gi_wp2
    obtain ⟨W9, hW9⟩ : ∃ W9, W9 = (((W.setCell ⟨w.heap.size, 0, none⟩ (.slice a9 n9 c9)).setCell ⟨w.heap.size + 1, 0, none⟩ (.int .i64 0)).setCell ⟨w.heap.size + 1, 1, none⟩ (.int .i64 0)) := ⟨_, rfl⟩
    try rw [← hW9]
    have r0 : Blk W9 w.heap.size 24 #[.slice a9 n9 c9] := by rw [hW9]; exact ((H0.out.set 0 _).other ⟨w.heap.size + 1, 0, none⟩ _ (by simp)).other ⟨w.heap.size + 1, 1, none⟩ _ (by simp)
    have r1 : Blk W9 (w.heap.size + 1) 27 #[.int .i64 0, .int .i64 0] := by rw [hW9]; exact ((H1.out.other ⟨w.heap.size, 0, none⟩ _ (by simp)).set 0 _).set 1 _
    have r2 : FieldsV W9 w.heap.size (.slice a9 n9 c9) ps := by
      rw [hW9]
      exact ((h3.set H0.out (by decide) (by decide) 0 _).set (H1.out.other ⟨w.heap.size, 0, none⟩ _ (by simp)) (by decide) (by decide) 0 _).set ((H1.out.other ⟨w.heap.size, 0, none⟩ _ (by simp)).set 0 _) (by decide) (by decide) 1 _
    have r3 : Grew w W9 := by rw [hW9]; exact grew_set (grew_set (grew_set h4 (Nat.le_refl _) _) (by omega) _) (by omega) _
    have hD9 : W9.heap[(w0.alloc (.cells #[.slice a l.length c] 22)).heap.size]? = some (.deferred (some [])) := by
      rw [hW9]
      simp only [World.size_alloc, hz0] at hD ⊢
      exact (heap_setCell_other _ ⟨w.heap.size + 1, 1, none⟩ _ _ (by simp; omega)).trans ((heap_setCell_other _ ⟨w.heap.size + 1, 0, none⟩ _ _ (by simp; omega)).trans ((heap_setCell_other _ ⟨w.heap.size, 0, none⟩ _ _ (by simp; omega)).trans hD))
    clear hW9
    have hck := CK.putObj w.heap.size W9 _ _ (.deferred none) hD9 rfl (by simp [hz0]; omega)
    refine ⟨by simp, .inl ⟨_, _, rfl, run_takeDeferred hD9, ?_⟩⟩
    refine ⟨_, results_cc rfl _ _ _ _ _ _ rfl rfl (loadVar_flds _ _ _ (hck.blk r0)) (loadVar_fault _ _ _ rfl (hck.blk r1)), ?_⟩
    rw [h8.out]
    exact ⟨_, rfl, ⟨ps, rfl, r2.ck hck⟩, Below.trans r3 (hck.toBelow (by omega))⟩
  case round =>
    rintro lp pre ⟨k, pv⟩ W hi ⟨hk1, hk2, hpv⟩
    obtain ⟨a1, n1, cp, rfl, hn1⟩ := hpv.shape
    simp only at hk1 hk2 hpv
    obtain ⟨X, hX⟩ : ∃ X, X = oneR l k := ⟨_, rfl⟩
    rw [← hX] at hpv
    have HX := Lib.hid hX
    have HK2 := Lib.hid hk2
    have hwz : w.heap.size ≤ W.heap.size := by obtain ⟨_, _, _, _, _, _, h, _⟩ := hi; exact h.size
    obtain ⟨W1, hW1⟩ : ∃ W1, W1 = ((W.alloc (.cells #[.int .i64 X.1.1, .int .u8 (X.1.2.1 : Nat), .int .u64 (X.1.2.2.1 : Nat), .slice a1 n1 cp, .int .i64 X.1.2.2.2.2] 39)).alloc (.cells #[.int .i64 (X.2.1 : Nat), .int .i64 (X.2.2.1 : Nat)] 27)) := ⟨_, rfl⟩
    have hga : Grew W W1 := by rw [hW1]; exact ((Below.refl _ _).alloc (Nat.le_refl _) _).alloc (by simp) _
    have hA : Blk W1 W.heap.size 39 #[.int .i64 X.1.1, .int .u8 (X.1.2.1 : Nat), .int .u64 (X.1.2.2.1 : Nat), .slice a1 n1 cp, .int .i64 X.1.2.2.2.2] := by rw [hW1]; exact (Blk.new _ _ _).alloc _
    have hB : Blk W1 (W.heap.size + 1) 27 #[.int .i64 (X.2.1 : Nat), .int .i64 (X.2.2.1 : Nat)] := by rw [hW1]; exact Blk.at (by simp)
    simp only [encF, ← hX]
    clear hX hk2
    gi_wp2
    try rw [← hW1]
    refine ⟨keepsOthers_grew hga, hi.tch (Tch.of_grew hga hwz), ?_⟩
    rintro W2 hck hsz ⟨v, ps, h0, h1, h2, h3, h4, h5, h6, h7, h8⟩
    have b0 := hck.blk hA
    have b1 := hck.blk hB
    have hkeep : KeepT SkT W W2 := (KeepT.of_grew hga).ck hck
    have hp2 := (hpv.grew hga).ck hck
    have hz1 : W1.heap.size = W.heap.size + 1 + 1 := by rw [hW1]; simp
    clear hi hga hck hpv hA hB hW1 hsz hz1
    have hkl : k < l.length := hk1
    have hn : nextF l (pre ++ [(k, .slice a1 n1 cp)]) = X.2.2.2 := by rw [nextF_snoc]; simp only [← HX.out]
    have HN := Lib.hid hn
    rw [← HK2.out] at h6 h7 h8
    obtain ⟨x0, x1, x2, x3⟩ := cells_of b1
    clear hn hk1
    by_cases he : X.2.1 ≠ 0
    · have hne : ((X.2.1 : Int) != 0) = true := by simp; omega
      rw [joinF_bad _ hkl (by rw [← HX.out]; exact he), ← HX.out] at h8
      have c0 := h0.cell 0
      have f0 := h0.frozen 0
      obtain ⟨u0, u1, u2, u3⟩ := cells_of h1
      simp only [List.getElem?_toArray, List.getElem?_cons_zero] at c0
      have H0 := Lib.hid h0
      have H1 := Lib.hid h1
      have H2 := Lib.hid h2
      have B0 := Lib.hid b0
      have B1 := Lib.hid b1
      clear h0 h1 h2 b0 b1 he
      gi_wp2
      gi_region
      all_goals
        gi_wp2
        refine ⟨((KeepsOthers.setCell _ _ _).trans (KeepsOthers.setCell _ _ _)).trans ((KeepsOthers.setCell _ _ _).trans (keepsOthers_grew (Drew.grew ⟨1, rfl⟩))), rfl, X.2.1, X.2.2.1, ?_, ?_, ?_, h8⟩
        · exact (((H0.out.set 0 _).other ⟨w.heap.size + 1, 0, none⟩ _ (by simp)).other ⟨w.heap.size + 1, 1, none⟩ _ (by simp)).drew
        · exact (((H1.out.other ⟨w.heap.size, 0, none⟩ _ (by simp)).set 0 _).set 1 _).drew
        · exact Below.trans (grew_set (grew_set (grew_set h4 (Nat.le_refl _) _) (by omega) _) (by omega) _) ((Drew.grew ⟨1, rfl⟩ : Grew _ _).mono (by have := h4.size; simp; omega))
    · have he0 : X.2.1 = 0 := by omega
      have ho := oneR_ok l k h6 (by rw [← HX.out]; exact he0)
      rw [← HX.out] at ho
      obtain ⟨-, -, ho3, ho4, -⟩ := ho
      rw [joinF_step _ hkl (by rw [← HX.out]; exact he0), ← HX.out] at h8
      have hgd : goodF l (pre ++ [(k, .slice a1 n1 cp)]) := by
        intro x hx
        rcases List.mem_append.1 hx with hx | hx
        · exact h5 x hx
        · obtain rfl := List.mem_singleton.1 hx
          simp only [← HX.out]; exact he0
      rw [he0] at x0
      replace x0 : W2.cell? ⟨W.heap.size + 1, 0, none⟩ = some (.int .i64 0) := x0
      have HGD := Lib.hid hgd
      obtain ⟨a9, c9, e9, -⟩ := (Sl.of_own h3.1).open
      have HO := Lib.hid h3
      have HP := Lib.hid hp2
      obtain ⟨p0, p1, p2, p3, p4, -⟩ := cells5 b0
      clear he he0 h3 hp2 h5 hgd
      subst e9
      have hga := grew_alloc W2 (.cells #[.int .i64 X.1.1, .int .u8 (X.1.2.1 : Nat), .int .u64 (X.1.2.2.1 : Nat), .slice a1 n1 cp, .int .i64 X.1.2.2.2.2] 39)
      have hsl : Sl (W2.alloc (.cells #[.int .i64 X.1.1, .int .u8 (X.1.2.1 : Nat), .int .u64 (X.1.2.2.1 : Nat), .slice a1 n1 cp, .int .i64 X.1.2.2.2.2] 39)) (.slice (some ⟨W2.heap.size, 0, none⟩) 1 1) 1 5 (ffv (X.1, .slice a1 n1 cp)) := Sl.lit W2 39 (0, 0) #[.int .i64 X.1.1, .int .u8 (X.1.2.1 : Nat), .int .u64 (X.1.2.2.1 : Nat), .slice a1 n1 cp, .int .i64 X.1.2.2.2.2] 1 5 rfl (by unfold maxLen; omega)
      have HSL := Lib.hid hsl
      have c2 := h2.cell 0
      simp only [List.getElem?_toArray, List.getElem?_cons_zero] at c2
      have H0 := Lib.hid h0
      have H1 := Lib.hid h1
      clear hsl h0 h1
      gi_wp2_with (gi_at_builtin; refine wpListIn_pushFl rfl _ _ rfl w.heap.size _ ps rfl (HO.out.grew hga) _ rfl (X.1, .slice a1 n1 cp) HSL.out (HP.out.grew hga) (by omega) (by have := h4.size; simp; omega) ?_; intro v' w2 hown2 hB2 hgb; obtain ⟨a8, c8, rfl, -⟩ := (Sl.of_own hown2.1).open; have h1w := (h2.grew hga).kept hgb (blk_ne_row (h2.grew hga) (HO.out.grew hga).1 (by decide)); have c1w := h1w.cell 0; simp only [List.getElem?_toArray, List.getElem?_cons_zero] at c1w; have f1w := h1w.frozen 0)
      have kb : ∀ b t cs, Blk W2 b t cs → t ≠ 39 → b ≠ w.heap.size + 1 + 1 → Blk (w2.setCell ⟨w.heap.size + 1 + 1, 0, none⟩ (.slice a8 (ps.length + 1) c8)) b t cs := fun b t cs h ht hne =>
        ((h.grew hga).kept hgb (blk_ne_row (h.grew hga) (HO.out.grew hga).1 ht)).other ⟨w.heap.size + 1 + 1, 0, none⟩ _ hne
      have hl1 : (ps ++ [((X.1, (Value.slice a1 n1 cp)) : FFV)]).length = ps.length + 1 := by simp
      rw [hl1] at hown2
      have gB : Below w.heap.size W2 (w2.setCell ⟨w.heap.size + 1 + 1, 0, none⟩ (.slice a8 (ps.length + 1) c8)) := grew_set (Below.trans (hga.mono h4.size) hB2) (by omega) _
      refine ⟨((keepsOthers_grew hga).trans (keepsOthers_app (HO.out.grew hga).1 hgb)).trans (KeepsOthers.setCell _ _ _), ((hkeep.trans (KeepT.of_grew hga)).grown (HO.out.grew hga).1 (by decide) hgb).set h1w (by decide) 0 _, ?_⟩
      refine ⟨_, ps ++ [(X.1, .slice a1 n1 cp)], kb _ _ _ H0.out (by decide) (by omega), kb _ _ _ H1.out (by decide) (by omega), h1w.set 0 _, hown2.set h1w (by decide) (by decide) 0 _, Below.trans h4 gB, HGD.out, ?_, ?_, ?_⟩
      · rw [HN.out]; omega
      · rw [HN.out, hl1]; omega
      · rw [HN.out, List.map_append]; exact h8
end Go.Proofs.Ytgoaijpckckdnaa
