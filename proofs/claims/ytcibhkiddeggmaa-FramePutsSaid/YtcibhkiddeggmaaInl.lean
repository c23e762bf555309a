/- Package inlet: contracts. -/
import Derived.Test.YtcibhkiddeggmaaFix
import Derived.Test.YtcibhkiddeggmaaSlc
namespace Go.Proofs.Ytcibhkiddeggmaa
open Go Go.RowKit Go.Shelf
attribute [local go_sem] Oper.semAt_some
variable {K : Value → Prop}

/-- block p is a reader of these bytes, at that place; t: its type; K: what is known of the slice value of its bytes -/
def InS (t : TypeId) (K : Value → Prop) (w : World) (p : Nat) (l : List UInt8) (at_ : Nat) : Prop := ∃ v, Blk w p t #[v, .int .i64 at_] ∧ Bs w v l ∧ at_ ≤ l.length ∧ K v
theorem InS.weak {t : TypeId} {w : World} {p : Nat} {l : List UInt8} {a : Nat} (h : InS t K w p l a) : InS t (fun _ => True) w p l a := by
  obtain ⟨v, h1, h2, h3, -⟩ := h
  exact ⟨v, h1, h2, h3, trivial⟩
theorem InS.bs {t : TypeId} {w w' : World} {p : Nat} {l : List UInt8} {at_ : Nat} (h : InS t K w p l at_) (hf : Fr (· = p) w w') {x : Value} {m : List UInt8} (hx : Bs w x m) : Bs w' x m := by
  obtain ⟨v, hb, hv, ha⟩ := h
  refine hx.fr hf (fun g hg hc => ?_)
  refine hx.not_blk hb (fun u hu hm => ?_) g hg hc
  have h1 : ∃ z, u = .int .u8 z := by
    cases m with
    | nil => cases hu
    | cons b m => simp [bv] at hu; subst hu; exact ⟨_, rfl⟩
  obtain ⟨z, rfl⟩ := h1
  obtain ⟨a, c, rfl⟩ := bs_len hv
  simp at hm
theorem InS.other {K' : Value → Prop} {t t' : TypeId} {w w' : World} {p q : Nat} {l m : List UInt8} {a b : Nat} (h : InS t K w p l a) (hq : InS t' K' w q m b) (hf : Fr (· = p) w w') (hne : q ≠ p) : InS t' K' w' q m b := by
  obtain ⟨v, hb, hv, ha⟩ := hq
  exact ⟨v, hb.fr hf hne, h.bs hf hv, ha⟩
/-- no byte stands among these cells -/
def noByte (cs : Array Value) : Prop := ∀ b : Int, Value.int .u8 b ∉ cs
theorem InS.cell {t t' : TypeId} {w w' : World} {p B : Nat} {l : List UInt8} {a : Nat} {cs : Array Value} (h : InS t K w p l a) (hb : Blk w B t' cs) (hn : noByte cs) (hne : p ≠ B) (hf : Fr (· = B) w w') : InS t K w' p l a := by
  obtain ⟨v, h1, hv, ha⟩ := h
  refine ⟨v, h1.fr hf hne, hv.fr hf (fun g hg hc => ?_), ha⟩
  refine hv.not_blk hb (fun u hu hm => ?_) g hg hc
  cases l with
  | nil => cases hu
  | cons b m => simp [bv] at hu; subst hu; exact hn _ hm
theorem noByte_fault (a b : Int) : noByte #[.int .i64 a, .int .i64 b] := by intro c h; simp at h
theorem fr_set2 (w : World) (B : Nat) (u v : Value) : Fr (· = B) w ((w.setCell ⟨B, 0, none⟩ u).setCell ⟨B, 1, none⟩ v) :=
  ((Fr.refl (fun x => x = B) w).set B 0 u (fun _ => rfl)).set B 1 v (fun _ => rfl)
theorem InS.grew {t : TypeId} {w w' : World} {p : Nat} {l : List UInt8} {a : Nat} (h : InS t K w p l a) (hg : Grew w w') : InS t K w' p l a := by
  obtain ⟨v, hb, hv, ha⟩ := h
  exact ⟨v, hb.grew hg, hv.grew hg, ha⟩
theorem InS.lt {t : TypeId} {w : World} {p : Nat} {l : List UInt8} {a : Nat} (h : InS t K w p l a) : p < w.heap.size := h.choose_spec.1.lt
abbrev InI (K : Value → Prop) (w : World) (p : Nat) (l : List UInt8) (a : Nat) : Prop := InS 122 K w p l a
def ptr (p : Nat) : Value := .pointer (some ⟨p, 0, none⟩)
def nilp : Value := .pointer none

theorem inew_any (l : List UInt8) (v : Value) (w : World) (hb : Bs w v l) (hl : l.length ≤ 140737488355328) : Calls Try.prog 57 #[v] w fun e w' => ∃ p v0, e = .returned (.pointer (some ⟨p, 0, none⟩)) ∧ w.heap.size ≤ p ∧ InI (· = v0) w' p l 0 ∧ OwnB w' w.heap.size v0 l ∧ Grew w w' := by
  obtain ⟨a, c, rfl, -⟩ := hb.open
  go_enter Try.func57, Try.ntmps57
  go_wp2_with fail
  refine (clone_any l _ w hb hl).mono ?_
  rintro e w1 ⟨v1, rfl, h1, g1⟩
  have hs := (Sl.of_own h1).grew (grew_alloc w1 (.cells #[v1, .int .i64 0] 122))
  have hlt := g1.size
  obtain ⟨a1, c1, rfl, -⟩ := (Sl.of_own h1).open
  have H1 := Lib.hid h1
  clear h1
  go_wp2
  go_ret
  exact ⟨_, _, rfl, hlt, ⟨_, Blk.new _ _ _, hs, Nat.zero_le _, rfl⟩, own_grew H1.out (grew_alloc _ _), Grew.trans g1 (grew_alloc _ _)⟩

theorem at_any (l : List UInt8) (p at_ : Nat) (w : World) (h : InI K w p l at_) : Calls Try.prog 78 #[.pointer (some ⟨p, 0, none⟩)] w fun e w' => e = .returned (.int .i64 at_) ∧ w = w' := by
  obtain ⟨v, hb, hv, ha, -⟩ := h
  have c1 := hb.cell 1
  simp only [List.getElem?_toArray, List.getElem?_cons_zero, List.getElem?_cons_succ] at c1
  go_enter Try.func78, Try.ntmps78
  go_wp2
  go_ret
  exact ⟨rfl, rfl⟩
theorem at_nil (w : World) : Calls Try.prog 78 #[.pointer none] w fun e w' => e = .returned (.int .i64 0) ∧ w = w' := by
  go_enter Try.func78, Try.ntmps78
  go_wp2
  go_ret
  exact ⟨rfl, rfl⟩

set_option maxRecDepth 10000 in
theorem rest_any (l : List UInt8) (p at_ : Nat) (w : World) (h : InI K w p l at_) : Calls Try.prog 77 #[.pointer (some ⟨p, 0, none⟩)] w fun e w' => ∃ v, e = .returned v ∧ Bs w' v (l.drop at_) ∧ Drew w w' := by
  obtain ⟨v, hb, hv, ha, -⟩ := h
  obtain ⟨a, c, rfl, h1, h2, -⟩ := hv.open
  unfold maxLen at h2
  have c0 := hb.cell 0
  have c1 := hb.cell 1
  simp only [List.getElem?_toArray, List.getElem?_cons_zero, List.getElem?_cons_succ] at c0 c1
  obtain ⟨a', hrun, hbs⟩ := slc_full hv at_ l.length l.length ha (Nat.le_refl _) (Nat.le_refl _) h1
  have HB := Lib.hid hbs
  clear hbs hb
  go_enter Try.func77, Try.ntmps77
  go_wp2
  go_quiet (fail)
  go_wp2
  go_ret
  refine ⟨_, rfl, ?_, ⟨_, rfl⟩⟩
  have := HB.out _ (hv.drew nq)
  rw [List.take_of_length_le (by rw [List.length_drop]; omega)] at this
  exact this
theorem rest_nil (w : World) : Calls Try.prog 77 #[.pointer none] w fun e w' => e = .returned (.slice none 0 0) ∧ w = w' := by
  go_enter Try.func77, Try.ntmps77
  go_wp2
  go_ret
  exact ⟨rfl, rfl⟩
theorem left_any (l : List UInt8) (p at_ : Nat) (w : World) (h : InI K w p l at_) : Calls Try.prog 58 #[.pointer (some ⟨p, 0, none⟩)] w fun e w' => e = .returned (.int .i64 (l.length - at_ : Nat)) ∧ Drew w w' := by
  go_enter Try.func58, Try.ntmps58
  go_wp2_with fail
  refine (rest_any l p at_ _ h).mono ?_
  rintro e w1 ⟨v, rfl, hv, n, rfl⟩
  obtain ⟨a, c, rfl⟩ := bs_len hv
  rw [List.length_drop]
  go_wp2
  go_ret
  exact ⟨rfl, _, rfl⟩
theorem left_nil (w : World) : Calls Try.prog 58 #[.pointer none] w fun e w' => e = .returned (.int .i64 0) ∧ w = w' := by
  go_enter Try.func58, Try.ntmps58
  go_wp2_with (go_at_call 77; refine (rest_nil _).mono ?_; rintro e w1 ⟨rfl, rfl⟩)
  go_ret
  exact ⟨rfl, rfl⟩

theorem loadVar_fault (w : World) (b : Nat) (cs : Array Value) (hs : cs.size = 2) (h : Blk w b 47 cs) : (loadVar 47 ⟨b, 0, none⟩).run Try.prog w = .ok (.agg cs) w :=
  run_loadVar_row w b _ _ cs (0, 0) _ h Try.underlying47 rfl (by rw [hs]; kernel_rfl)
abbrev faultV (e at_ : Nat) : Value := .agg #[.int .i64 e, .int .i64 at_]

/-- an error: the reader stays -/
theorem end_err (l : List UInt8) (p at_ e : Nat) (he : e ≠ 0) (size : Int) (w : World) (h : InI K w p l at_) : Calls Try.prog 97 #[.pointer (some ⟨p, 0, none⟩), .int .i64 size, .int .i64 e] w fun e' w' => e' = .returned (faultV e at_) ∧ Grew w w' := by
  have hne : ((e : Int) != 0) = true := by simp; omega
  have ha := grew_alloc w (.cells #[.int .i64 0, .int .i64 0] 47)
  have hb := Blk.new w 47 #[.int .i64 0, .int .i64 0]
  have f0 := hb.frozen 0
  have f1 := hb.frozen 1
  clear he
  go_enter Try.func97, Try.ntmps97
  go_wp2_with fail
  refine (at_any l p at_ _ (h.grew ha)).mono ?_
  rintro e w1 ⟨rfl, rfl⟩
  go_wp2
  refine bodyPost_ret (results_c rfl _ _ ⟨w.heap.size, 0, none⟩ _ rfl (loadVar_fault _ _ _ rfl (Blk.new _ _ _))) rfl ⟨rfl, grew_alloc _ _⟩
/-- it goes on -/
theorem end_ok (l : List UInt8) (p at_ size : Nat) (hs : at_ + size ≤ l.length) (w : World) (h : InI K w p l at_) : Calls Try.prog 97 #[.pointer (some ⟨p, 0, none⟩), .int .i64 size, .int .i64 0] w fun e' w' => e' = .returned (faultV 0 0) ∧ InI K w' p l (at_ + size) ∧ Fr (· = p) w w' := by
  have hlt := h.lt
  obtain ⟨v, hb0, hv, hat, hk⟩ := id h
  have HK := Lib.hid hk
  clear hk
  obtain ⟨a, c, rfl, h1, h2, -⟩ := hv.open
  unfold maxLen at h2
  have ha := grew_alloc w (.cells #[.int .i64 0, .int .i64 0] 47)
  have hb := Blk.new w 47 #[.int .i64 0, .int .i64 0]
  have hp := hb0.grew ha
  have f0 := hb.frozen 0
  have f1 := hb.frozen 1
  have fp := hp.frozen 1
  have c1 := hp.cell 1
  simp only [List.getElem?_toArray, List.getElem?_cons_zero, List.getElem?_cons_succ] at c1
  have hne : p ≠ w.heap.size := by omega
  have hne' : w.heap.size ≠ p := by omega
  go_enter Try.func97, Try.ntmps97
  go_wp2
  have k2 := ((hb0.set 1 (.int .i64 ((at_ + size : Nat) : Int))).alloc (.cells #[.int .i64 0, .int .i64 0] 47))
  have k3 : Fr (· = p) w ((w.setCell ⟨p, 1, none⟩ (.int .i64 ((at_ + size : Nat) : Int))).alloc (.cells #[.int .i64 0, .int .i64 0] 47)) :=
    ((Fr.refl (fun x => x = p) w).set p 1 _ (fun _ => rfl)).alloc _
  push_cast at k2 k3
  have k4 := h.bs k3 hv
  refine bodyPost_ret (results_c rfl _ _ ⟨w.heap.size, 0, none⟩ _ rfl (loadVar_fault _ _ _ rfl (Blk.at (by simp)))) rfl ⟨rfl, ⟨_, ?_, k4, hs, HK.out⟩, k3⟩
  push_cast
  exact k2
theorem end_nil (size : Int) (e : Nat) (w : World) : Calls Try.prog 97 #[.pointer none, .int .i64 size, .int .i64 e] w fun e' w' => e' = .returned (faultV (if e = 0 then 4 else e) 0) ∧ Grew w w' := by
  have ha := grew_alloc w (.cells #[.int .i64 0, .int .i64 0] 47)
  have hb := Blk.new w 47 #[.int .i64 0, .int .i64 0]
  have f0 := hb.frozen 0
  have f1 := hb.frozen 1
  by_cases he : e = 0
  · subst he
    go_enter Try.func97, Try.ntmps97
    go_wp2
    refine bodyPost_ret (results_c rfl _ _ ⟨w.heap.size, 0, none⟩ _ rfl (loadVar_fault _ _ _ rfl (Blk.new _ _ _))) rfl ⟨rfl, grew_alloc _ _⟩
  · have hne : ((e : Int) != 0) = true := by simp; omega
    rw [if_neg he]
    clear he
    go_enter Try.func97, Try.ntmps97
    go_wp2_with (go_at_call 78; refine (at_nil _).mono ?_; rintro e w1 ⟨rfl, rfl⟩)
    refine bodyPost_ret (results_c rfl _ _ ⟨w.heap.size, 0, none⟩ _ rfl (loadVar_fault _ _ _ rfl (Blk.new _ _ _))) rfl ⟨rfl, grew_alloc _ _⟩
/-- what comes of a try -/
def fltAt (e at_ : Nat) : Nat := if e = 0 then 0 else at_
abbrev outF (e at_ : Nat) : Value := faultV e (fltAt e at_)
theorem end_any (l : List UInt8) (p at_ size e : Nat) (hs : e = 0 → at_ + size ≤ l.length) (w : World) (h : InI K w p l at_) : Calls Try.prog 97 #[.pointer (some ⟨p, 0, none⟩), .int .i64 size, .int .i64 e] w fun e' w' => e' = .returned (outF e at_) ∧ InI K w' p l (if e = 0 then at_ + size else at_) ∧ Fr (· = p) w w' := by
  by_cases he : e = 0
  · subst he
    exact end_ok l p at_ size (hs rfl) w h
  · refine (end_err l p at_ e he size w h).mono ?_
    rintro e' w' ⟨rfl, g⟩
    rw [outF, fltAt, if_neg he, if_neg he]
    exact ⟨rfl, h.grew g, Fr.of_grew g⟩

set_option maxRecDepth 10000 in
set_option maxHeartbeats 1000000 in
theorem ivarint_any (l : List UInt8) (p at_ : Nat) (w : World) (h : InI K w p l at_) : Calls Try.prog 80 #[.pointer (some ⟨p, 0, none⟩)] w fun e w' => e = .returned (.tuple #[.int .u64 (vget (l.drop at_)).1, outF (vget (l.drop at_)).2.2 at_]) ∧ InI K w' p l (at_ + (vget (l.drop at_)).2.1) ∧ Fr (· = p) w w' := by
  have hbd := vget_bd (l.drop at_)
  have hat : at_ ≤ l.length := h.choose_spec.2.2.1
  rw [List.length_drop] at hbd
  have hp := h.lt
  have h0 := h.grew (grew_alloc w (.cells #[.int .i64 0, .int .i64 0] 47))
  have hb0 := Blk.new w 47 #[.int .i64 0, .int .i64 0]
  have K := fun v w hb => get_any (l.drop at_) v w hb
  obtain ⟨⟨n, k, e⟩, hR⟩ : ∃ R, vget (l.drop at_) = R := ⟨_, rfl⟩
  simp only [hR] at hbd K ⊢
  obtain ⟨hb1, hb2, hb3, hb4, hb5⟩ := hbd
  have hk : (if e = 0 then at_ + k else at_) = at_ + k := by
    split
    · rfl
    · rename_i he; rw [(hb5 he).2]; rfl
  have HK := Lib.hid hk
  have KG := Lib.hid K
  have HB5 := Lib.hid hb5
  clear hR K hk hb5 hb4
  go_enter Try.func80, Try.ntmps80
  go_wp2_with fail
  refine (rest_any l p at_ _ h0).mono ?_
  rintro e1 w1 ⟨v, rfl, hv, nd, rfl⟩
  go_wp2_with fail
  refine (KG.out v _ hv).mono ?_
  rintro e2 w2 ⟨rfl, rfl⟩
  go_wp2_with fail
  refine (end_any l p at_ k e (fun he => by omega) _ (h0.grew (Drew.grew ⟨nd, rfl⟩))).mono ?_
  rintro e3 w3 ⟨rfl, hi, hf⟩
  rw [HK.out] at hi
  have hb3' := (hb0.grew (Drew.grew ⟨nd, rfl⟩)).fr hf (by omega)
  have f0 := hb3'.frozen 0
  have f1 := hb3'.frozen 1
  have c0 := hb3'.cell 0
  have c1 := hb3'.cell 1
  simp only [List.getElem?_toArray, List.getElem?_cons_zero, List.getElem?_cons_succ] at c0 c1
  clear hb0 h0
  go_wp2
  have hf2 := Fr.trans (Fr.trans (Fr.of_grew (Grew.trans (grew_alloc _ _) (Drew.grew ⟨nd, rfl⟩))) hf) (Fr.refl _ _)
  refine bodyPost_ret (results_tc rfl _ _ ⟨w.heap.size, 0, none⟩ _ _ rfl rfl (loadVar_fault _ _ _ rfl ((hb3'.set 0 _).set 1 _))) rfl ⟨rfl, hi.cell hb3' (noByte_fault _ _) (by omega) (fr_set2 _ _ _ _), (hf2.set _ 0 _ (fun h => absurd h (by omega))).set _ 1 _ (fun h => absurd h (by omega))⟩
end Go.Proofs.Ytcibhkiddeggmaa
