/- Package outlet: All and Bytes: contracts. ; Contract of rescriptref05.Bytes. -/
import Derived.Test.YtcibhkiddeggmaaFix
import Derived.Test.YtcibhkiddeggmaaOut
namespace Go.Proofs.Ytcibhkiddeggmaa
open Go Go.RowKit Go.Shelf


end Go.Proofs.Ytcibhkiddeggmaa
namespace Go.Proofs.Ytcibhkiddeggmaa
open Go Go.RowKit Go.Shelf
attribute [local go_sem] Oper.semAt_some

/-- what a writer does to what was written: what there is then, and the error -/
abbrev Wr := List UInt8 → List UInt8 × Nat
/-- writers, one behind the other, up to the first error -/
def allGo : List Wr → Wr
  | [], b => (b, 0)
  | f :: t, b => if (f b).2 ≠ 0 then f b else allGo t (f b).1
/-- all of them, or none -/
def allR (fs : List Wr) (b : List UInt8) : List UInt8 × Nat := if (allGo fs b).2 ≠ 0 then (b, (allGo fs b).2) else allGo fs b
/-- a function value that writes so, where Env holds -/
def WrOk (Env : World → (Nat → Prop) → Prop) (base p m : Nat) (c : Value) (f : Wr) : Prop :=
  (c = .nilFunc ∧ ∀ b, f b = (b, 0)) ∨
  ((∀ b, b <+: (f b).1) ∧ (∀ b, b.length ≤ m → (f b).2 < 4294967296) ∧ ∃ g lb, c = .func (.func g) #[] lb ∧ (∀ args w, (callFunc g args).run Try.prog w = .ok (.enter g args) w) ∧
    ∀ F w b, Env w F → OutO base F w p b m → Calls Try.prog g (#[.pointer (some ⟨p, 0, none⟩)] ++ lb) w fun e w' => e = .returned (.int .i64 (f b).2) ∧ ∃ F', OutO base F' w' p (f b).1 m ∧ Fr F w w' ∧ (∀ k, F' k → F k ∨ w.heap.size ≤ k) ∧ Env w' F')

theorem own_take {w : World} {base : Nat} {a : Option Addr} {c : Nat} {l : List UInt8} (h : OwnB w base (.slice a l.length c) l) (k : Nat) (hk : k ≤ l.length) : OwnB w base (.slice a k c) (l.take k) := by
  have hlen : (l.take k).length = k := by rw [List.length_take]; omega
  obtain ⟨hl, h⟩ := h
  refine ⟨by rw [hlen]; simp [hk], ?_⟩
  rcases h with ⟨e, h0⟩ | ⟨g, cap, cur, e, hb, hg, hn, hc, hs, ht⟩
  · simp only [Value.slice.injEq] at e
    obtain ⟨rfl, e2, rfl⟩ := e
    obtain rfl : k = 0 := by omega
    exact .inl ⟨rfl, hlen⟩
  · simp only [Value.slice.injEq] at e
    obtain ⟨rfl, e2, rfl⟩ := e
    refine .inr ⟨g, c, cur, by rw [hlen], hb, hg, by rw [hlen]; omega, hc, hs, ?_⟩
    have e1 : bv (l.take k) = (bv l).take k := by simp [bv]
    rw [e1, ← ht, hlen]
    simp [List.take_take, Nat.min_eq_left hk]

theorem oall_nil (w : World) (x : Value) : Calls Try.prog 89 #[.pointer none, x] w fun e w' => e = .returned (.int .i64 14) ∧ w = w' := by
  go_enter Try.func89, Try.ntmps89
  go_wp2
  go_ret
  exact ⟨rfl, rfl⟩

set_option maxRecDepth 100000 in
set_option maxHeartbeats 2000000 in
theorem oall_any (Env : World → (Nat → Prop) → Prop) (base p m : Nat) (F : Nat → Prop) (b : List UInt8) (fs : List Wr) (cs : List Value) (vf : Value) (w : World) (hE : Env w F) (h : OutO base F w p b m)
    (hlen : cs.length = fs.length) (hlb : fs.length ≤ 1000000) (hS : ∀ w F, Env w F → Sl w vf fs.length 1 cs) (hW : ∀ (i : Nat) c f, cs[i]? = some c → fs[i]? = some f → WrOk Env base p m c f) :
    Calls Try.prog 89 #[.pointer (some ⟨p, 0, none⟩), vf] w fun e w' => e = .returned (.int .i64 (allR fs b).2) ∧ OutP 131 base F p (allR fs b).1 m w w' := by
  obtain ⟨v, h1, h2, h3, h4, h5, h6⟩ := id h
  obtain ⟨a, c, rfl⟩ := bs_len (Sl.of_own h2)
  obtain ⟨c0, c1, -, -⟩ := cells_of' h1
  obtain ⟨af, cf, rfl, -, -, -, -⟩ := (hS w F hE).open
  obtain ⟨R, hR⟩ : ∃ R, allR fs b = R := ⟨_, rfl⟩
  rw [hR]
  have HR := Lib.hid hR
  clear h1 h2 h6 hR
  have HW := Lib.hid hW
  have HS := Lib.hid hS
  have HLEN := Lib.hid hlen
  clear hW hS hlen
  go_enter Try.func89, Try.ntmps89
  go_wp2
  go_loopw [18] (fun i wr => ∃ (k : Nat) (cur : List UInt8) (F' : Nat → Prop), k ≤ fs.length ∧ i = .int .i64 k ∧ OutO base F' wr p cur m ∧ Env wr F' ∧ b <+: cur ∧ allGo fs b = allGo (fs.drop k) cur ∧ Fr F w wr ∧ ∀ j, F' j → F j ∨ w.heap.size ≤ j) (fun i _ => fs.length - (intOf i).toNat)
  case atStart => exact ⟨0, b, F, by omega, rfl, h, hE, List.prefix_refl _, rfl, Fr.refl _ _, fun j hj => .inl hj⟩
  case round =>
    obtain ⟨k, cur, F', hk, rfl, hO, hEk, hpre, hgo, hfr, hfresh⟩ := hrel
    clear c0 c1 hE h
    by_cases hlt : k < fs.length
    · obtain ⟨af', cf', e, -, -, -, hcell⟩ := (HS.out wr F' hEk).open
      cases e
      obtain ⟨bk, off, rfl, hc⟩ := hcell (by omega)
      have hkc : k < cs.length := by rw [HLEN.out]; exact hlt
      have d := hc k _ (List.getElem?_eq_getElem hkc)
      have hw := HW.out k _ _ (List.getElem?_eq_getElem hkc) (List.getElem?_eq_getElem hlt)
      obtain ⟨cv, hcv⟩ : ∃ cv, cs[k] = cv := ⟨_, rfl⟩
      rw [hcv] at hw d
      have hd : fs.drop k = fs[k] :: fs.drop (k + 1) := List.drop_eq_getElem_cons hlt
      obtain ⟨f, hf⟩ : ∃ f, fs[k] = f := ⟨_, rfl⟩
      rw [hf] at hw hd
      rw [hd, allGo] at hgo
      clear hc hcell hcv hd hf
      rcases hw with ⟨rfl, hfb⟩ | ⟨hmono, hbd, g, lb, rfl, heg, hcall⟩
      · rw [hfb] at hgo
        simp only [ne_eq, not_true_eq_false, if_false] at hgo
        have HGO := Lib.hid hgo
        have HPRE := Lib.hid hpre
        clear hgo hfb hpre
        have hq : ∀ w : World, (binOp .eql 138 .nilFunc .nilFunc).run Try.prog w = .ok (.bool true) w := fun w => by kernel_rfl
        go_wp2
        go_roundw
        case rel => exact ⟨k + 1, cur, F', by omega, by go_num, hO, hEk, HPRE.out, HGO.out, hfr, hfresh⟩
        case measure => simp [intOf]; omega
      · have hcl := hcall F' wr cur hEk hO
        have hmo := hmono cur
        obtain ⟨⟨nx, e⟩, hfc⟩ : ∃ r, f cur = r := ⟨_, rfl⟩
        rw [hfc] at hcl hgo hmo
        simp only at hcl hgo hmo
        have HCL := Lib.hid hcl
        have HGO := Lib.hid hgo
        have HPRE := Lib.hid hpre
        have HMO := Lib.hid hmo
        clear hcl hgo hpre hcall hmono hbd hfc hmo
        have hq : ∀ w : World, (binOp .eql 138 (.func (.func g) #[] lb) .nilFunc).run Try.prog w = .ok (.bool false) w := fun w => by kernel_rfl
        go_wp2_with fail
        refine HCL.out.mono ?_
        rintro e3 w3 ⟨rfl, F2, hO2, hf2, hn2, hE2⟩
        have hpre2 := Lib.hid (List.IsPrefix.trans HPRE.out HMO.out)
        have hfr2 : Fr F w w3 := hfr.trans' hf2 (fun i hi hs => by
          rcases hfresh i hs with h | h
          · exact h
          · omega)
        have hfresh2 : ∀ j, F2 j → F j ∨ w.heap.size ≤ j := fun j hj => by
          rcases hn2 j hj with h | h
          · exact hfresh j h
          · exact .inr (Nat.le_trans hfr.size h)
        clear hq d heg hO hEk
        by_cases he : e = 0
        · subst he
          have hgo2 : allGo fs b = allGo (fs.drop (k + 1)) nx := by rw [HGO.out]; simp
          have HG2 := Lib.hid hgo2
          clear hgo2
          go_wp2
          go_roundw
          case rel => exact ⟨k + 1, nx, F2, by omega, by go_num, hO2, hE2, hpre2.out, HG2.out, hfr2, hfresh2⟩
          case measure => simp [intOf]; omega
        · have hgo2 : allR fs b = (b, e) := by rw [allR, HGO.out]; simp [he]
          have HG2 := Lib.hid hgo2
          have hne : ((e : Int) != 0) = true := by simp; omega
          obtain ⟨v2, k1, k2, k3, k4, k5, k6⟩ := id hO2
          obtain ⟨a2, cap2, rfl, q1, q2, -⟩ := (Sl.of_own k2).open
          unfold maxLen at q2
          have hple := hpre2.out.length_le
          have hcap : b.length ≤ cap2 := by omega
          obtain ⟨c0, c1, f0, f1⟩ := cells_of' k1
          clear he hgo2
          go_wp2
          go_ret
          have htk : nx.take b.length = b := by
            obtain ⟨t, rfl⟩ := hpre2.out
            simp
          have hot := own_take k2 b.length hple
          rw [htk] at hot
          have hne2 : (Value.slice a2 b.length cap2).ownBlock ≠ some p := fun e' => blk_ne_row k1 hot (by decide) e'.symm
          have hob : (Value.slice a2 b.length cap2).ownBlock = (Value.slice a2 nx.length cap2).ownBlock := by cases a2 <;> rfl
          rw [← HR.out, HG2.out]
          have hfp : ∀ j, j = p → p < w.heap.size → F j := fun j hj hpl => by
            subst hj
            rcases hfresh2 j ((k6 j).2 (.inl rfl)) with h | h
            · exact h
            · omega
          exact ⟨rfl, F2, ⟨_, k1.set 0 _, own_set hot _ _ hne2, by omega, k4, k5, fun j => by rw [hob]; exact k6 j⟩, hfr2.set p 0 _ (fun h => hfp p rfl h), hfresh2⟩
    · obtain rfl : k = fs.length := by omega
      rw [List.drop_length] at hgo
      have HGO := Lib.hid hgo
      clear hgo
      go_wp2
      go_ret
      rw [← HR.out, allR, HGO.out]
      exact ⟨rfl, F', hO, hfr, hfresh⟩

/-! ## a length, and bytes -/
theorem bytes_fs (b l : List UInt8) (m : Nat) (_hb : b.length ≤ m) : allR [fun b => putR b (vput l.length) m, fun b => putR b l m] b = putR b (vput l.length ++ l) m := by
  unfold allR allGo allGo allGo putR
  by_cases h1 : m < b.length + (vput l.length).length
  · simp [h1, show m < b.length + ((vput l.length).length + l.length) by omega]
  · by_cases h2 : m < b.length + (vput l.length).length + l.length
    · simp [h1, h2, show m < b.length + ((vput l.length).length + l.length) by omega]
    · simp [h1, h2, show ¬ m < b.length + ((vput l.length).length + l.length) by omega]
theorem obytes1_any (base : Nat) (F : Nat → Prop) (b l : List UInt8) (p m t3 : Nat) (a : Option Addr) (c : Nat) (w : World) (h : OutO base F w p b m) (hb : Blk w t3 22 #[.slice a l.length c]) (hl : l.length ≤ 100000000) :
    Calls Try.prog 90 #[.pointer (some ⟨p, 0, none⟩), .pointer (some ⟨t3, 0, none⟩)] w fun e w' => e = .returned (.int .i64 (putR b (vput l.length) m).2) ∧ OutP 131 base F p (putR b (vput l.length) m).1 m w w' := by
  have c0 := hb.cell 0
  simp only [List.getElem?_toArray, List.getElem?_cons_zero] at c0
  go_enter Try.func90, Try.ntmps90
  go_wp2_with fail
  refine (ovarint_any base F b p m l.length (by omega) _ h).mono ?_
  rintro e2 w2 ⟨rfl, h2⟩
  have H2 := Lib.hid h2
  clear h2
  go_wp2
  go_ret
  exact ⟨rfl, H2.out⟩
theorem obytes2_any (base : Nat) (F : Nat → Prop) (b l : List UInt8) (p m t3 : Nat) (a : Option Addr) (c : Nat) (w : World) (h : OutO base F w p b m) (hb : Blk w t3 22 #[.slice a l.length c]) (hx : Bs w (.slice a l.length c) l) (hl : l.length ≤ 100000000) :
    Calls Try.prog 91 #[.pointer (some ⟨p, 0, none⟩), .pointer (some ⟨t3, 0, none⟩)] w fun e w' => e = .returned (.int .i64 (putR b l m).2) ∧ OutP 131 base F p (putR b l m).1 m w w' := by
  have c0 := hb.cell 0
  simp only [List.getElem?_toArray, List.getElem?_cons_zero] at c0
  go_enter Try.func91, Try.ntmps91
  go_wp2_with fail
  refine (raw_any base F b l p m _ _ h hx hl).mono ?_
  rintro e2 w2 ⟨rfl, h2⟩
  have H2 := Lib.hid h2
  clear h2
  go_wp2
  go_ret
  exact ⟨rfl, H2.out⟩
theorem putR_pre (b l : List UInt8) (m : Nat) : b <+: (putR b l m).1 := by
  unfold putR; split
  · exact List.prefix_refl _
  · exact List.prefix_append _ _
theorem putR_err (b l : List UInt8) (m : Nat) : (putR b l m).2 < 4294967296 := by
  unfold putR; split <;> simp
/-- what Bytes' two writers find -/
def BytesEnv (x : Value) (l : List UInt8) (t3 ts : Nat) (cs : Array Value) (tt : TypeId) (W : World) (F : Nat → Prop) : Prop :=
  Bs W x l ∧ Blk W t3 22 #[x] ∧ Blk W ts tt cs ∧ (∀ g, Value.blk x = some g → l ≠ [] → g < W.heap.size ∧ ¬ F g) ∧ ¬ F t3 ∧ ¬ F ts
theorem BytesEnv.step {x : Value} {l : List UInt8} {t3 ts : Nat} {cs : Array Value} {tt : TypeId} {W W' : World} {F F' : Nat → Prop} (h : BytesEnv x l t3 ts cs tt W F) (hf : Fr F W W') (hn : ∀ k, F' k → F k ∨ W.heap.size ≤ k) : BytesEnv x l t3 ts cs tt W' F' := by
  obtain ⟨h1, h2, h3, h4, h5, h6⟩ := h
  refine ⟨h1.fr hf (fun g hg hc => (h4 g hg (by intro e; subst e; exact hc rfl)).2), h2.fr hf h5, h3.fr hf h6, fun g hg hc => ?_, fun hk => ?_, fun hk => ?_⟩
  · obtain ⟨q1, q2⟩ := h4 g hg hc
    refine ⟨Nat.lt_of_lt_of_le q1 hf.size, fun hk => ?_⟩
    rcases hn g hk with h | h
    · exact q2 h
    · omega
  · rcases hn t3 hk with h | h
    · exact h5 h
    · have := h2.lt; omega
  · rcases hn ts hk with h | h
    · exact h6 h
    · have := h3.lt; omega

set_option maxRecDepth 100000 in
set_option maxHeartbeats 1000000 in
theorem obytes_any (base : Nat) (F : Nat → Prop) (b l : List UInt8) (p m : Nat) (x : Value) (w : World) (h : OutO base F w p b m) (hx : Bs w x l) (hdis : ∀ g, Value.blk x = some g → l ≠ [] → ¬ F g) (hl : l.length ≤ 100000000) :
    Calls Try.prog 65 #[.pointer (some ⟨p, 0, none⟩), x] w fun e w' => e = .returned (.int .i64 (putR b (vput l.length ++ l) m).2) ∧ OutP 131 base F p (putR b (vput l.length ++ l) m).1 m w w' := by
  have hbm : b.length ≤ m := h.choose_spec.2.2.1
  rw [← bytes_fs b l m hbm]
  obtain ⟨a, c, rfl⟩ := bs_len hx
  have hlt : ∀ g, Value.blk (.slice a l.length c) = some g → l ≠ [] → g < w.heap.size := fun g hg hc => by
    obtain ⟨_, _, _, e, _, _, _, hcell⟩ := hx
    cases e
    cases a with
    | none => cases hg
    | some ad =>
      cases hg
      have hpos : 0 < (bv l).length := by rw [bv_length]; exact List.length_pos_iff.2 hc
      have h0 : (bv l)[0]? = some (bv l)[0] := List.getElem?_eq_getElem hpos
      have := cell_lt (hcell ad rfl 0 _ h0)
      rwa [add_block] at this
  have g2 := Grew.trans (grew_alloc w (.cells #[.slice a l.length c] 22)) (grew_alloc (w.alloc (.cells #[.slice a l.length c] 22)) (.cells #[.func (.func 90) #[] #[.pointer (some ⟨w.heap.size, 0, none⟩)], .func (.func 91) #[] #[.pointer (some ⟨w.heap.size, 0, none⟩)]] 138))
  have hE : BytesEnv (.slice a l.length c) l w.heap.size (w.heap.size + 1) #[.func (.func 90) #[] #[.pointer (some ⟨w.heap.size, 0, none⟩)], .func (.func 91) #[] #[.pointer (some ⟨w.heap.size, 0, none⟩)]] 138
      ((w.alloc (.cells #[.slice a l.length c] 22)).alloc (.cells #[.func (.func 90) #[] #[.pointer (some ⟨w.heap.size, 0, none⟩)], .func (.func 91) #[] #[.pointer (some ⟨w.heap.size, 0, none⟩)]] 138)) F :=
    ⟨hx.grew g2, (Blk.new _ _ _).alloc _, Blk.at (by simp), fun g hg hc => ⟨by have := hlt g hg hc; simp; omega, hdis g hg hc⟩, fun hk => by have := (h.own _ hk).2; omega, fun hk => by have := (h.own _ hk).2; omega⟩
  have hf1 := enters_of Try.func90 (by kernel_rfl) rfl
  have hf2 := enters_of Try.func91 (by kernel_rfl) rfl
  have hall := fun w1 hE1 hO1 => oall_any (BytesEnv (.slice a l.length c) l w.heap.size (w.heap.size + 1) #[.func (.func 90) #[] #[.pointer (some ⟨w.heap.size, 0, none⟩)], .func (.func 91) #[] #[.pointer (some ⟨w.heap.size, 0, none⟩)]] 138) base p m F b
    [fun b => putR b (vput l.length) m, fun b => putR b l m] [.func (.func 90) #[] #[.pointer (some ⟨w.heap.size, 0, none⟩)], .func (.func 91) #[] #[.pointer (some ⟨w.heap.size, 0, none⟩)]] (.slice (some ⟨w.heap.size + 1, 0, none⟩) 2 2) w1 hE1 hO1 rfl (by simp) ?_ ?_
  rotate_left
  · rintro W F' ⟨-, -, hbs, -⟩
    refine ⟨rfl, _, 2, rfl, Nat.le_refl _, by unfold maxLen; omega, (fun h => by cases h), ?_⟩
    rintro ad had j u hu
    cases had
    rw [Addr.add_lit, Nat.zero_add, hbs.cell]
    simpa using hu
  · intro i cc f hc hf
    match i with
    | 0 =>
      cases hc
      cases hf
      refine .inr ⟨fun b => putR_pre _ _ _, fun b _ => putR_err _ _ _, 90, _, rfl, hf1, fun F1 w1 b1 hE1 hO1 => ?_⟩
      refine (obytes1_any base F1 b1 l p m _ a c w1 hO1 hE1.2.1 hl).mono ?_
      rintro e w2 ⟨rfl, F2, q1, q2, q3⟩
      exact ⟨rfl, F2, q1, q2, q3, hE1.step q2 q3⟩
    | 1 =>
      cases hc
      cases hf
      refine .inr ⟨fun b => putR_pre _ _ _, fun b _ => putR_err _ _ _, 91, _, rfl, hf2, fun F1 w1 b1 hE1 hO1 => ?_⟩
      refine (obytes2_any base F1 b1 l p m _ a c w1 hO1 hE1.2.1 hE1.1 hl).mono ?_
      rintro e w2 ⟨rfl, F2, q1, q2, q3⟩
      exact ⟨rfl, F2, q1, q2, q3, hE1.step q2 q3⟩
    | j + 2 => simp at hc
  have HALL := Lib.hid (hall _ hE (h.grew g2))
  clear hall hlt hdis hE hf1 hf2
  go_enter Try.func65, Try.ntmps65
  go_wp2_with fail
  refine HALL.out.mono ?_
  rintro e2 w2 ⟨rfl, h2⟩
  have H2 := Lib.hid h2
  clear h2
  go_wp2
  go_ret
  exact ⟨rfl, H2.out.pre g2⟩
end Go.Proofs.Ytcibhkiddeggmaa
