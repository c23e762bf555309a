/- rescriptref04: Bytes: contract. ; rescriptref04: contracts. ; Package inlet: contracts, the third part. ; Package inlet: contracts, the second part. ; Package inlet: contracts. -/
import Derived.Test.YtbjoohafgkodcaaGreatFix
import Derived.Deep.RegionHeld3
import Derived.RegionTactic
import Derived.StillTailTactics
namespace Go.Proofs.YtbjoohafgkodcaaGreat
open Go Go.RowKit Go.Shelf
attribute [local go_sem] Oper.semAt_some
variable {K : Value → Prop}

/-- block p is a reader of these bytes, at that place; t: its type; K: what is known of the slice value of its bytes -/
def InS (t : TypeId) (K : Value → Prop) (w : World) (p : Nat) (l : List UInt8) (at_ : Nat) : Prop := ∃ v, Blk w p t #[v, .int .i64 at_] ∧ Bs w v l ∧ at_ ≤ l.length ∧ K v
theorem InS.weak {t : TypeId} {w : World} {p : Nat} {l : List UInt8} {a : Nat} (h : InS t K w p l a) : InS t (fun _ => True) w p l a := by
  obtain ⟨v, h1, h2, h3, -⟩ := h
  exact ⟨v, h1, h2, h3, trivial⟩
theorem InS.bs {t : TypeId} {w w' : World} {p : Nat} {l : List UInt8} {at_ : Nat} (h : InS t K w p l at_) (hf : Fr (· = p) w w') {x : Value} {m : List UInt8} (hx : Bs w x m) : Bs w' x m := by
  obtain ⟨v, hb, hv, ha⟩ := h
  refine hx.fr hf (fun g hg hc => ?_)
  refine hx.not_blk hb (fun u hu hm => ?_) g hg hc
  have h1 : ∃ z, u = .int .u8 z := by
    cases m with
    | nil => cases hu
    | cons b m => simp [bv] at hu; subst hu; exact ⟨_, rfl⟩
  obtain ⟨z, rfl⟩ := h1
  obtain ⟨a, c, rfl⟩ := bs_len hv
  simp at hm
theorem InS.other {K' : Value → Prop} {t t' : TypeId} {w w' : World} {p q : Nat} {l m : List UInt8} {a b : Nat} (h : InS t K w p l a) (hq : InS t' K' w q m b) (hf : Fr (· = p) w w') (hne : q ≠ p) : InS t' K' w' q m b := by
  obtain ⟨v, hb, hv, ha⟩ := hq
  exact ⟨v, hb.fr hf hne, h.bs hf hv, ha⟩
/-- no byte stands among these cells -/
def noByte (cs : Array Value) : Prop := ∀ b : Int, Value.int .u8 b ∉ cs
theorem InS.cell {t t' : TypeId} {w w' : World} {p B : Nat} {l : List UInt8} {a : Nat} {cs : Array Value} (h : InS t K w p l a) (hb : Blk w B t' cs) (hn : noByte cs) (hne : p ≠ B) (hf : Fr (· = B) w w') : InS t K w' p l a := by
  obtain ⟨v, h1, hv, ha⟩ := h
  refine ⟨v, h1.fr hf hne, hv.fr hf (fun g hg hc => ?_), ha⟩
  refine hv.not_blk hb (fun u hu hm => ?_) g hg hc
  cases l with
  | nil => cases hu
  | cons b m => simp [bv] at hu; subst hu; exact hn _ hm
theorem noByte_fault (a b : Int) : noByte #[.int .i64 a, .int .i64 b] := by intro c h; simp at h
theorem fr_set2 (w : World) (B : Nat) (u v : Value) : Fr (· = B) w ((w.setCell ⟨B, 0, none⟩ u).setCell ⟨B, 1, none⟩ v) :=
  ((Fr.refl (fun x => x = B) w).set B 0 u (fun _ => rfl)).set B 1 v (fun _ => rfl)
theorem InS.grew {t : TypeId} {w w' : World} {p : Nat} {l : List UInt8} {a : Nat} (h : InS t K w p l a) (hg : Grew w w') : InS t K w' p l a := by
  obtain ⟨v, hb, hv, ha⟩ := h
  exact ⟨v, hb.grew hg, hv.grew hg, ha⟩
theorem InS.lt {t : TypeId} {w : World} {p : Nat} {l : List UInt8} {a : Nat} (h : InS t K w p l a) : p < w.heap.size := h.choose_spec.1.lt
abbrev InI (K : Value → Prop) (w : World) (p : Nat) (l : List UInt8) (a : Nat) : Prop := InS 204 K w p l a
def ptr (p : Nat) : Value := .pointer (some ⟨p, 0, none⟩)
def nilp : Value := .pointer none

theorem inew_any (l : List UInt8) (v : Value) (w : World) (hb : Bs w v l) (hl : l.length ≤ 140737488355328) : Calls Tryz.prog 130 #[v] w fun e w' => ∃ p v0, e = .returned (.pointer (some ⟨p, 0, none⟩)) ∧ w.heap.size ≤ p ∧ InI (· = v0) w' p l 0 ∧ OwnB w' w.heap.size v0 l ∧ Grew w w' := by
  obtain ⟨a, c, rfl, -⟩ := hb.open
  go_enter Tryz.func130, Tryz.ntmps130
  go_wp2_with fail
  refine (clone_any l _ w hb hl).mono ?_
  rintro e w1 ⟨v1, rfl, h1, g1⟩
  have hs := (Sl.of_own h1).grew (grew_alloc w1 (.cells #[v1, .int .i64 0] 204))
  have hlt := g1.size
  obtain ⟨a1, c1, rfl, -⟩ := (Sl.of_own h1).open
  have H1 := Lib.hid h1
  clear h1
  go_wp2
  go_ret
  exact ⟨_, _, rfl, hlt, ⟨_, Blk.new _ _ _, hs, Nat.zero_le _, rfl⟩, own_grew H1.out (grew_alloc _ _), Grew.trans g1 (grew_alloc _ _)⟩

theorem at_any (l : List UInt8) (p at_ : Nat) (w : World) (h : InI K w p l at_) : Calls Tryz.prog 140 #[.pointer (some ⟨p, 0, none⟩)] w fun e w' => e = .returned (.int .i64 at_) ∧ w = w' := by
  obtain ⟨v, hb, hv, ha, -⟩ := h
  have c1 := hb.cell 1
  simp only [List.getElem?_toArray, List.getElem?_cons_zero, List.getElem?_cons_succ] at c1
  go_enter Tryz.func140, Tryz.ntmps140
  go_wp2
  go_ret
  exact ⟨rfl, rfl⟩
theorem at_nil (w : World) : Calls Tryz.prog 140 #[.pointer none] w fun e w' => e = .returned (.int .i64 0) ∧ w = w' := by
  go_enter Tryz.func140, Tryz.ntmps140
  go_wp2
  go_ret
  exact ⟨rfl, rfl⟩

set_option maxRecDepth 10000 in
theorem rest_any (l : List UInt8) (p at_ : Nat) (w : World) (h : InI K w p l at_) : Calls Tryz.prog 139 #[.pointer (some ⟨p, 0, none⟩)] w fun e w' => ∃ v, e = .returned v ∧ Bs w' v (l.drop at_) ∧ Drew w w' := by
  obtain ⟨v, hb, hv, ha, -⟩ := h
  obtain ⟨a, c, rfl, h1, h2, -⟩ := hv.open
  unfold maxLen at h2
  have c0 := hb.cell 0
  have c1 := hb.cell 1
  simp only [List.getElem?_toArray, List.getElem?_cons_zero, List.getElem?_cons_succ] at c0 c1
  obtain ⟨a', hrun, hbs⟩ := slc_full hv at_ l.length l.length ha (Nat.le_refl _) (Nat.le_refl _) h1
  have HB := Lib.hid hbs
  clear hbs hb
  go_enter Tryz.func139, Tryz.ntmps139
  go_wp2
  go_quiet (fail)
  go_wp2
  go_ret
  refine ⟨_, rfl, ?_, ⟨_, rfl⟩⟩
  have := HB.out _ (hv.drew nq)
  rw [List.take_of_length_le (by rw [List.length_drop]; omega)] at this
  exact this
theorem rest_nil (w : World) : Calls Tryz.prog 139 #[.pointer none] w fun e w' => e = .returned (.slice none 0 0) ∧ w = w' := by
  go_enter Tryz.func139, Tryz.ntmps139
  go_wp2
  go_ret
  exact ⟨rfl, rfl⟩
theorem left_any (l : List UInt8) (p at_ : Nat) (w : World) (h : InI K w p l at_) : Calls Tryz.prog 131 #[.pointer (some ⟨p, 0, none⟩)] w fun e w' => e = .returned (.int .i64 (l.length - at_ : Nat)) ∧ Drew w w' := by
  go_enter Tryz.func131, Tryz.ntmps131
  go_wp2_with fail
  refine (rest_any l p at_ _ h).mono ?_
  rintro e w1 ⟨v, rfl, hv, n, rfl⟩
  obtain ⟨a, c, rfl⟩ := bs_len hv
  rw [List.length_drop]
  go_wp2
  go_ret
  exact ⟨rfl, _, rfl⟩
theorem left_nil (w : World) : Calls Tryz.prog 131 #[.pointer none] w fun e w' => e = .returned (.int .i64 0) ∧ w = w' := by
  go_enter Tryz.func131, Tryz.ntmps131
  go_wp2_with (go_at_call 139; refine (rest_nil _).mono ?_; rintro e w1 ⟨rfl, rfl⟩)
  go_ret
  exact ⟨rfl, rfl⟩

theorem loadVar_fault (w : World) (b : Nat) (cs : Array Value) (hs : cs.size = 2) (h : Blk w b 32 cs) : (loadVar 32 ⟨b, 0, none⟩).run Tryz.prog w = .ok (.agg cs) w :=
  run_loadVar_row w b _ _ cs (0, 0) _ h Tryz.underlying32 rfl (by rw [hs]; kernel_rfl)
abbrev faultV (e at_ : Nat) : Value := .agg #[.int .i64 e, .int .i64 at_]

/-- an error: the reader stays -/
theorem end_err (l : List UInt8) (p at_ e : Nat) (he : e ≠ 0) (size : Int) (w : World) (h : InI K w p l at_) : Calls Tryz.prog 155 #[.pointer (some ⟨p, 0, none⟩), .int .i64 size, .int .i64 e] w fun e' w' => e' = .returned (faultV e at_) ∧ Grew w w' := by
  have hne : ((e : Int) != 0) = true := by simp; omega
  have ha := grew_alloc w (.cells #[.int .i64 0, .int .i64 0] 32)
  have hb := Blk.new w 32 #[.int .i64 0, .int .i64 0]
  have f0 := hb.frozen 0
  have f1 := hb.frozen 1
  clear he
  go_enter Tryz.func155, Tryz.ntmps155
  go_wp2_with fail
  refine (at_any l p at_ _ (h.grew ha)).mono ?_
  rintro e w1 ⟨rfl, rfl⟩
  go_wp2
  refine bodyPost_ret (results_c rfl _ _ ⟨w.heap.size, 0, none⟩ _ rfl (loadVar_fault _ _ _ rfl (Blk.new _ _ _))) rfl ⟨rfl, grew_alloc _ _⟩
/-- it goes on -/
theorem end_ok (l : List UInt8) (p at_ size : Nat) (hs : at_ + size ≤ l.length) (w : World) (h : InI K w p l at_) : Calls Tryz.prog 155 #[.pointer (some ⟨p, 0, none⟩), .int .i64 size, .int .i64 0] w fun e' w' => e' = .returned (faultV 0 0) ∧ InI K w' p l (at_ + size) ∧ Fr (· = p) w w' := by
  have hlt := h.lt
  obtain ⟨v, hb0, hv, hat, hk⟩ := id h
  have HK := Lib.hid hk
  clear hk
  obtain ⟨a, c, rfl, h1, h2, -⟩ := hv.open
  unfold maxLen at h2
  have ha := grew_alloc w (.cells #[.int .i64 0, .int .i64 0] 32)
  have hb := Blk.new w 32 #[.int .i64 0, .int .i64 0]
  have hp := hb0.grew ha
  have f0 := hb.frozen 0
  have f1 := hb.frozen 1
  have fp := hp.frozen 1
  have c1 := hp.cell 1
  simp only [List.getElem?_toArray, List.getElem?_cons_zero, List.getElem?_cons_succ] at c1
  have hne : p ≠ w.heap.size := by omega
  have hne' : w.heap.size ≠ p := by omega
  go_enter Tryz.func155, Tryz.ntmps155
  go_wp2
  have k2 := ((hb0.set 1 (.int .i64 ((at_ + size : Nat) : Int))).alloc (.cells #[.int .i64 0, .int .i64 0] 32))
  have k3 : Fr (· = p) w ((w.setCell ⟨p, 1, none⟩ (.int .i64 ((at_ + size : Nat) : Int))).alloc (.cells #[.int .i64 0, .int .i64 0] 32)) :=
    ((Fr.refl (fun x => x = p) w).set p 1 _ (fun _ => rfl)).alloc _
  push_cast at k2 k3
  have k4 := h.bs k3 hv
  refine bodyPost_ret (results_c rfl _ _ ⟨w.heap.size, 0, none⟩ _ rfl (loadVar_fault _ _ _ rfl (Blk.at (by simp)))) rfl ⟨rfl, ⟨_, ?_, k4, hs, HK.out⟩, k3⟩
  push_cast
  exact k2
theorem end_nil (size : Int) (e : Nat) (w : World) : Calls Tryz.prog 155 #[.pointer none, .int .i64 size, .int .i64 e] w fun e' w' => e' = .returned (faultV (if e = 0 then 4 else e) 0) ∧ Grew w w' := by
  have ha := grew_alloc w (.cells #[.int .i64 0, .int .i64 0] 32)
  have hb := Blk.new w 32 #[.int .i64 0, .int .i64 0]
  have f0 := hb.frozen 0
  have f1 := hb.frozen 1
  by_cases he : e = 0
  · subst he
    go_enter Tryz.func155, Tryz.ntmps155
    go_wp2
    refine bodyPost_ret (results_c rfl _ _ ⟨w.heap.size, 0, none⟩ _ rfl (loadVar_fault _ _ _ rfl (Blk.new _ _ _))) rfl ⟨rfl, grew_alloc _ _⟩
  · have hne : ((e : Int) != 0) = true := by simp; omega
    rw [if_neg he]
    clear he
    go_enter Tryz.func155, Tryz.ntmps155
    go_wp2_with (go_at_call 140; refine (at_nil _).mono ?_; rintro e w1 ⟨rfl, rfl⟩)
    refine bodyPost_ret (results_c rfl _ _ ⟨w.heap.size, 0, none⟩ _ rfl (loadVar_fault _ _ _ rfl (Blk.new _ _ _))) rfl ⟨rfl, grew_alloc _ _⟩
/-- what comes of a try -/
def fltAt (e at_ : Nat) : Nat := if e = 0 then 0 else at_
abbrev outF (e at_ : Nat) : Value := faultV e (fltAt e at_)
theorem end_any (l : List UInt8) (p at_ size e : Nat) (hs : e = 0 → at_ + size ≤ l.length) (w : World) (h : InI K w p l at_) : Calls Tryz.prog 155 #[.pointer (some ⟨p, 0, none⟩), .int .i64 size, .int .i64 e] w fun e' w' => e' = .returned (outF e at_) ∧ InI K w' p l (if e = 0 then at_ + size else at_) ∧ Fr (· = p) w w' := by
  by_cases he : e = 0
  · subst he
    exact end_ok l p at_ size (hs rfl) w h
  · refine (end_err l p at_ e he size w h).mono ?_
    rintro e' w' ⟨rfl, g⟩
    rw [outF, fltAt, if_neg he, if_neg he]
    exact ⟨rfl, h.grew g, Fr.of_grew g⟩

set_option maxRecDepth 10000 in
set_option maxHeartbeats 1000000 in
theorem ivarint_any (l : List UInt8) (p at_ : Nat) (w : World) (h : InI K w p l at_) : Calls Tryz.prog 142 #[.pointer (some ⟨p, 0, none⟩)] w fun e w' => e = .returned (.tuple #[.int .u64 (vget (l.drop at_)).1, outF (vget (l.drop at_)).2.2 at_]) ∧ InI K w' p l (at_ + (vget (l.drop at_)).2.1) ∧ Fr (· = p) w w' := by
  have hbd := vget_bd (l.drop at_)
  have hat : at_ ≤ l.length := h.choose_spec.2.2.1
  rw [List.length_drop] at hbd
  have hp := h.lt
  have h0 := h.grew (grew_alloc w (.cells #[.int .i64 0, .int .i64 0] 32))
  have hb0 := Blk.new w 32 #[.int .i64 0, .int .i64 0]
  have K := fun v w hb => get_any (l.drop at_) v w hb
  obtain ⟨⟨n, k, e⟩, hR⟩ : ∃ R, vget (l.drop at_) = R := ⟨_, rfl⟩
  simp only [hR] at hbd K ⊢
  obtain ⟨hb1, hb2, hb3, hb4, hb5⟩ := hbd
  have hk : (if e = 0 then at_ + k else at_) = at_ + k := by
    split
    · rfl
    · rename_i he; rw [(hb5 he).2]; rfl
  have HK := Lib.hid hk
  have KG := Lib.hid K
  have HB5 := Lib.hid hb5
  clear hR K hk hb5 hb4
  go_enter Tryz.func142, Tryz.ntmps142
  go_wp2_with fail
  refine (rest_any l p at_ _ h0).mono ?_
  rintro e1 w1 ⟨v, rfl, hv, nd, rfl⟩
  go_wp2_with fail
  refine (KG.out v _ hv).mono ?_
  rintro e2 w2 ⟨rfl, rfl⟩
  go_wp2_with fail
  refine (end_any l p at_ k e (fun he => by omega) _ (h0.grew (Drew.grew ⟨nd, rfl⟩))).mono ?_
  rintro e3 w3 ⟨rfl, hi, hf⟩
  rw [HK.out] at hi
  have hb3' := (hb0.grew (Drew.grew ⟨nd, rfl⟩)).fr hf (by omega)
  have f0 := hb3'.frozen 0
  have f1 := hb3'.frozen 1
  have c0 := hb3'.cell 0
  have c1 := hb3'.cell 1
  simp only [List.getElem?_toArray, List.getElem?_cons_zero, List.getElem?_cons_succ] at c0 c1
  clear hb0 h0
  go_wp2
  have hf2 := Fr.trans (Fr.trans (Fr.of_grew (Grew.trans (grew_alloc _ _) (Drew.grew ⟨nd, rfl⟩))) hf) (Fr.refl _ _)
  refine bodyPost_ret (results_tc rfl _ _ ⟨w.heap.size, 0, none⟩ _ _ rfl rfl (loadVar_fault _ _ _ rfl ((hb3'.set 0 _).set 1 _))) rfl ⟨rfl, hi.cell hb3' (noByte_fault _ _) (by omega) (fr_set2 _ _ _ _), (hf2.set _ 0 _ (fun h => absurd h (by omega))).set _ 1 _ (fun h => absurd h (by omega))⟩
end Go.Proofs.YtbjoohafgkodcaaGreat
namespace Go.Proofs.YtbjoohafgkodcaaGreat
open Go Go.RowKit Go.Shelf
attribute [local go_sem] Oper.semAt_some
variable {K : Value → Prop}

/-- what the reader's result cell needs, behind a call that may have turned the reader -/
theorem cells_of {w : World} {b : Nat} {t : TypeId} {x y : Value} (h : Blk w b t #[x, y]) : w.cell? ⟨b, 0, none⟩ = some x ∧ w.cell? ⟨b, 1, none⟩ = some y ∧ w.frozen? ⟨b, 0, none⟩ = false ∧ w.frozen? ⟨b, 1, none⟩ = false := by
  have c0 := h.cell 0
  have c1 := h.cell 1
  simp only [List.getElem?_toArray, List.getElem?_cons_zero, List.getElem?_cons_succ] at c0 c1
  exact ⟨c0, c1, h.frozen 0, h.frozen 1⟩

/-- a tag that is read: number, wire type, error, and where one is behind it -/
def tagR (l : List UInt8) (at_ : Nat) : Nat × Nat × Nat × Nat :=
  if (vget (l.drop at_)).2.2 ≠ 0 then (0, 0, (vget (l.drop at_)).2.2, at_)
  else if (tsplit (vget (l.drop at_)).1).2.2 ≠ 0 then (0, 0, (tsplit (vget (l.drop at_)).1).2.2, at_)
  else ((tsplit (vget (l.drop at_)).1).1, (tsplit (vget (l.drop at_)).1).2.1, 0, at_ + (vget (l.drop at_)).2.1)
theorem tsplit_err (n : Nat) (h : (tsplit n).2.2 ≠ 0) : (tsplit n).1 = 0 ∧ (tsplit n).2.1 = 0 := by
  unfold tsplit at h ⊢
  by_cases h1 : n / 8 < 1 ∨ 536870911 < n / 8
  · rw [if_pos h1]; simp
  rw [if_neg h1] at h ⊢
  by_cases h2 : wireB (n % 8) = false
  · rw [if_pos h2]; simp
  rw [if_neg h2] at h; simp at h

set_option maxRecDepth 10000 in
set_option maxHeartbeats 2000000 in
theorem itag_any (l : List UInt8) (p at_ : Nat) (w : World) (h : InI K w p l at_) : Calls Tryz.prog 141 #[.pointer (some ⟨p, 0, none⟩)] w fun e w' => e = .returned (.tuple #[.int .i64 (tagR l at_).1, .int .u8 (tagR l at_).2.1, outF (tagR l at_).2.2.1 at_]) ∧ InI K w' p l (tagR l at_).2.2.2 ∧ Fr (· = p) w w' := by
  have hbd := vget_bd (l.drop at_)
  have hat : at_ ≤ l.length := h.choose_spec.2.2.1
  rw [List.length_drop] at hbd
  have hp := h.lt
  have h0 := h.grew (grew_alloc w (.cells #[.int .i64 0, .int .i64 0] 32))
  have hb0 := Blk.new w 32 #[.int .i64 0, .int .i64 0]
  have K := fun v w hb => get_any (l.drop at_) v w hb
  obtain ⟨R, hTR⟩ : ∃ R, tagR l at_ = R := ⟨_, rfl⟩
  rw [hTR]
  unfold tagR at hTR
  obtain ⟨⟨n, k, e⟩, hR⟩ : ∃ R, vget (l.drop at_) = R := ⟨_, rfl⟩
  simp only [hR] at hbd K hTR
  obtain ⟨hb1, hb2, hb3, hb4, hb5⟩ := hbd
  have KG := Lib.hid K
  clear hR K hb4 hb5
  by_cases he : e = 0
  · subst he
    rw [if_neg (by simp)] at hTR
    have KS := fun w => split_any n hb1 w
    have hse := tsplit_err n
    obtain ⟨⟨num, wire, g⟩, hS⟩ : ∃ S, tsplit n = S := ⟨_, rfl⟩
    simp only [hS] at KS hTR hse
    have ht : ((num, wire, g, if g = 0 then at_ + k else at_) : Nat × Nat × Nat × Nat) = R := by
      rw [← hTR]
      by_cases hg : g = 0
      · simp [hg]
      · simp [hg, (hse hg).1, (hse hg).2]
    have HT := Lib.hid ht
    clear ht
    have KSH := Lib.hid KS
    clear hS KS hse hTR
    go_enter Tryz.func141, Tryz.ntmps141
    go_wp2_with fail
    refine (rest_any l p at_ _ h0).mono ?_
    rintro e1 w1 ⟨v, rfl, hv, nd, rfl⟩
    go_wp2_with fail
    refine (KG.out v _ hv).mono ?_
    rintro e2 w2 ⟨rfl, rfl⟩
    go_wp2_with fail
    refine (KSH.out _).mono ?_
    rintro e2 w2 ⟨rfl, rfl⟩
    go_wp2_with fail
    refine (end_any l p at_ k g (fun he => by omega) _ (h0.grew (Drew.grew ⟨nd, rfl⟩))).mono ?_
    rintro e3 w3 ⟨rfl, hi, hf⟩
    have hb3' := (hb0.grew (Drew.grew ⟨nd, rfl⟩)).fr hf (by omega)
    obtain ⟨c0, c1, f0, f1⟩ := cells_of hb3'
    have HI := Lib.hid hi
    clear hb0 h0 hi
    go_wp2
    refine bodyPost_ret (results_ttc rfl _ _ ⟨w.heap.size, 0, none⟩ _ _ _ rfl rfl rfl (loadVar_fault _ _ _ rfl ((hb3'.set 0 _).set 1 _))) rfl ?_
    rw [← HT.out]
    exact ⟨rfl, HI.out.cell hb3' (noByte_fault _ _) (by omega) (fr_set2 _ _ _ _), ((Fr.trans (Fr.of_grew (Grew.trans (grew_alloc _ _) (Drew.grew ⟨nd, rfl⟩))) hf).set _ 0 _ (fun h => absurd h (by omega))).set _ 1 _ (fun h => absurd h (by omega))⟩
  · rw [if_pos he] at hTR
    have HT := Lib.hid hTR
    have hne : ((e : Int) != 0) = true := by simp; omega
    have HE := Lib.hid he
    clear hTR he
    go_enter Tryz.func141, Tryz.ntmps141
    go_wp2_with fail
    refine (rest_any l p at_ _ h0).mono ?_
    rintro e1 w1 ⟨v, rfl, hv, nd, rfl⟩
    go_wp2_with fail
    refine (KG.out v _ hv).mono ?_
    rintro e2 w2 ⟨rfl, rfl⟩
    go_wp2_with fail
    refine (end_any l p at_ 0 e (fun he => absurd he HE.out) _ (h0.grew (Drew.grew ⟨nd, rfl⟩))).mono ?_
    rintro e3 w3 ⟨rfl, hi, hf⟩
    rw [if_neg HE.out] at hi
    have hb3' := (hb0.grew (Drew.grew ⟨nd, rfl⟩)).fr hf (by omega)
    obtain ⟨c0, c1, f0, f1⟩ := cells_of hb3'
    clear hb0 h0
    go_wp2
    refine bodyPost_ret (results_ttc rfl _ _ ⟨w.heap.size, 0, none⟩ _ _ _ rfl rfl rfl (loadVar_fault _ _ _ rfl ((hb3'.set 0 _).set 1 _))) rfl ?_
    rw [← HT.out]
    exact ⟨rfl, hi.cell hb3' (noByte_fault _ _) (by omega) (fr_set2 _ _ _ _), ((Fr.trans (Fr.of_grew (Grew.trans (grew_alloc _ _) (Drew.grew ⟨nd, rfl⟩))) hf).set _ 0 _ (fun h => absurd h (by omega))).set _ 1 _ (fun h => absurd h (by omega))⟩

/-- k bytes that are read: the number, the error, and where one is behind it -/
def fixR (l : List UInt8) (at_ k : Nat) : Nat × Nat × Nat := if (l.drop at_).length < k then (0, 4, at_) else (unfix ((l.drop at_).take k), 0, at_ + k)
theorem fixR_tread (l : List UInt8) (at_ k : Nat) : fixR l at_ k = ((tread (l.drop at_) k).1, (tread (l.drop at_) k).2, if (tread (l.drop at_) k).2 = 0 then at_ + k else at_) := by
  unfold fixR tread; split <;> simp
theorem tread_ok (l : List UInt8) (k : Nat) (h : (tread l k).2 = 0) : k ≤ l.length := by
  unfold tread at h; split at h
  · simp at h
  · omega

set_option maxRecDepth 10000 in
set_option maxHeartbeats 2000000 in
theorem ifour_any (l : List UInt8) (p at_ : Nat) (w : World) (h : InI K w p l at_) : Calls Tryz.prog 145 #[.pointer (some ⟨p, 0, none⟩)] w fun e w' => e = .returned (.tuple #[.int .u32 (fixR l at_ 4).1, outF (fixR l at_ 4).2.1 at_]) ∧ InI K w' p l (fixR l at_ 4).2.2 ∧ Fr (· = p) w w' := by
  have hat : at_ ≤ l.length := h.choose_spec.2.2.1
  have hok := tread_ok (l.drop at_) 4
  rw [List.length_drop] at hok
  have hp := h.lt
  have h0 := h.grew (grew_alloc w (.cells #[.int .i64 0, .int .i64 0] 32))
  have hb0 := Blk.new w 32 #[.int .i64 0, .int .i64 0]
  have K := fun v w hb => get32_any (l.drop at_) v w hb
  rw [fixR_tread]
  obtain ⟨⟨n, e⟩, hR⟩ : ∃ R, tread (l.drop at_) 4 = R := ⟨_, rfl⟩
  simp only [hR] at hok K ⊢
  obtain ⟨q, hq⟩ : ∃ q, (if e = 0 then at_ + 4 else at_) = q := ⟨_, rfl⟩
  rw [hq]
  have HQ := Lib.hid hq
  clear hq
  have KG := Lib.hid K
  have HOK := Lib.hid hok
  clear hR K hok
  go_enter Tryz.func145, Tryz.ntmps145
  go_wp2_with fail
  refine (rest_any l p at_ _ h0).mono ?_
  rintro e1 w1 ⟨v, rfl, hv, nd, rfl⟩
  go_wp2_with fail
  refine (KG.out v _ hv).mono ?_
  rintro e2 w2 ⟨rfl, rfl⟩
  go_wp2_with fail
  refine (width_any 5 _).mono ?_
  rintro e2 w2 ⟨rfl, rfl⟩
  rw [show widthN 5 = 4 from rfl, show wireB 5 = true from rfl]
  go_wp2_with fail
  refine (end_any l p at_ 4 e (fun he => by have := HOK.out he; omega) _ (h0.grew (Drew.grew ⟨nd, rfl⟩))).mono ?_
  rintro e3 w3 ⟨rfl, hi, hf⟩
  rw [HQ.out] at hi
  have hb3' := (hb0.grew (Drew.grew ⟨nd, rfl⟩)).fr hf (by omega)
  obtain ⟨c0, c1, f0, f1⟩ := cells_of hb3'
  have HI := Lib.hid hi
  clear hb0 h0 hi
  go_wp2
  refine bodyPost_ret (results_tc rfl _ _ ⟨w.heap.size, 0, none⟩ _ _ rfl rfl (loadVar_fault _ _ _ rfl ((hb3'.set 0 _).set 1 _))) rfl ⟨rfl, HI.out.cell hb3' (noByte_fault _ _) (by omega) (fr_set2 _ _ _ _), ((Fr.trans (Fr.of_grew (Grew.trans (grew_alloc _ _) (Drew.grew ⟨nd, rfl⟩))) hf).set _ 0 _ (fun h => absurd h (by omega))).set _ 1 _ (fun h => absurd h (by omega))⟩
set_option maxRecDepth 10000 in
set_option maxHeartbeats 2000000 in
theorem ieight_any (l : List UInt8) (p at_ : Nat) (w : World) (h : InI K w p l at_) : Calls Tryz.prog 143 #[.pointer (some ⟨p, 0, none⟩)] w fun e w' => e = .returned (.tuple #[.int .u64 (fixR l at_ 8).1, outF (fixR l at_ 8).2.1 at_]) ∧ InI K w' p l (fixR l at_ 8).2.2 ∧ Fr (· = p) w w' := by
  have hat : at_ ≤ l.length := h.choose_spec.2.2.1
  have hok := tread_ok (l.drop at_) 8
  rw [List.length_drop] at hok
  have hp := h.lt
  have h0 := h.grew (grew_alloc w (.cells #[.int .i64 0, .int .i64 0] 32))
  have hb0 := Blk.new w 32 #[.int .i64 0, .int .i64 0]
  have K := fun v w hb => get64_any (l.drop at_) v w hb
  rw [fixR_tread]
  obtain ⟨⟨n, e⟩, hR⟩ : ∃ R, tread (l.drop at_) 8 = R := ⟨_, rfl⟩
  simp only [hR] at hok K ⊢
  obtain ⟨q, hq⟩ : ∃ q, (if e = 0 then at_ + 8 else at_) = q := ⟨_, rfl⟩
  rw [hq]
  have HQ := Lib.hid hq
  clear hq
  have KG := Lib.hid K
  have HOK := Lib.hid hok
  clear hR K hok
  go_enter Tryz.func143, Tryz.ntmps143
  go_wp2_with fail
  refine (rest_any l p at_ _ h0).mono ?_
  rintro e1 w1 ⟨v, rfl, hv, nd, rfl⟩
  go_wp2_with fail
  refine (KG.out v _ hv).mono ?_
  rintro e2 w2 ⟨rfl, rfl⟩
  go_wp2_with fail
  refine (width_any 1 _).mono ?_
  rintro e2 w2 ⟨rfl, rfl⟩
  rw [show widthN 1 = 8 from rfl, show wireB 1 = true from rfl]
  go_wp2_with fail
  refine (end_any l p at_ 8 e (fun he => by have := HOK.out he; omega) _ (h0.grew (Drew.grew ⟨nd, rfl⟩))).mono ?_
  rintro e3 w3 ⟨rfl, hi, hf⟩
  rw [HQ.out] at hi
  have hb3' := (hb0.grew (Drew.grew ⟨nd, rfl⟩)).fr hf (by omega)
  obtain ⟨c0, c1, f0, f1⟩ := cells_of hb3'
  have HI := Lib.hid hi
  clear hb0 h0 hi
  go_wp2
  refine bodyPost_ret (results_tc rfl _ _ ⟨w.heap.size, 0, none⟩ _ _ rfl rfl (loadVar_fault _ _ _ rfl ((hb3'.set 0 _).set 1 _))) rfl ⟨rfl, HI.out.cell hb3' (noByte_fault _ _) (by omega) (fr_set2 _ _ _ _), ((Fr.trans (Fr.of_grew (Grew.trans (grew_alloc _ _) (Drew.grew ⟨nd, rfl⟩))) hf).set _ 0 _ (fun h => absurd h (by omega))).set _ 1 _ (fun h => absurd h (by omega))⟩

theorem end_at (l : List UInt8) (p at_ : Nat) (size : Int) (s e : Nat) (hsz : size = s) (hs : e = 0 → at_ + s ≤ l.length) (w : World) (h : InI K w p l at_) : Calls Tryz.prog 155 #[.pointer (some ⟨p, 0, none⟩), .int .i64 size, .int .i64 e] w fun e' w' => e' = .returned (outF e at_) ∧ InI K w' p l (if e = 0 then at_ + s else at_) ∧ Fr (· = p) w w' := by
  subst hsz; exact end_any l p at_ s e hs w h
/-- n bytes that are read behind some others: they, the error, and where one is behind them -/
def cutR (l : List UInt8) (at_ ahead n : Nat) : List UInt8 × Nat × Nat := if l.length - at_ < ahead + n then ([], 4, at_) else ((l.drop (at_ + ahead)).take n, 0, at_ + (ahead + n))

set_option maxRecDepth 10000 in
set_option maxHeartbeats 2000000 in
theorem icut_any (l : List UInt8) (p at_ ahead n : Nat) (ha : ahead ≤ l.length - at_) (hn : n ≤ 9223372036854775807) (hl : l.length ≤ 1000000000) (w : World) (h : InI K w p l at_) : Calls Tryz.prog 159 #[.pointer (some ⟨p, 0, none⟩), .int .i64 ahead, .int .i64 n] w fun e w' => ∃ v, e = .returned (.tuple #[v, outF (cutR l at_ ahead n).2.1 at_]) ∧ OwnB w' w.heap.size v (cutR l at_ ahead n).1 ∧ InI K w' p l (cutR l at_ ahead n).2.2 ∧ Fr (· = p) w w' := by
  have hat : at_ ≤ l.length := h.choose_spec.2.2.1
  have hp := h.lt
  have h0 := h.grew (grew_alloc w (.cells #[.int .i64 0, .int .i64 0] 32))
  have hb0 := Blk.new w 32 #[.int .i64 0, .int .i64 0]
  obtain ⟨R, hR⟩ : ∃ R, cutR l at_ ahead n = R := ⟨_, rfl⟩
  rw [hR]
  unfold cutR at hR
  by_cases hs : l.length - at_ < ahead + n
  · rw [if_pos hs] at hR
    have HR := Lib.hid hR
    clear hR
    have hd : decide (((l.length - at_ : Nat) : Int) - (ahead : Int) < (n : Int)) = true := by simp; omega
    go_enter Tryz.func159, Tryz.ntmps159
    go_wp2_with fail
    refine (rest_any l p at_ _ h0).mono ?_
    rintro e1 w1 ⟨v, rfl, hv, nd, rfl⟩
    obtain ⟨a, c, rfl⟩ := bs_len hv
    rw [List.length_drop]
    clear hv
    go_wp2_with fail
    refine (end_any l p at_ 0 4 (fun he => by omega) _ (h0.grew (Drew.grew ⟨nd, rfl⟩))).mono ?_
    rintro e3 w3 ⟨rfl, hi, hf⟩
    rw [if_neg (by omega)] at hi
    have hb3' := (hb0.grew (Drew.grew ⟨nd, rfl⟩)).fr hf (by omega)
    obtain ⟨c0, c1, f0, f1⟩ := cells_of hb3'
    have HI := Lib.hid hi
    clear hb0 h0 hi hd
    go_wp2
    refine bodyPost_ret (results_tc rfl _ _ ⟨w.heap.size, 0, none⟩ _ _ rfl rfl (loadVar_fault _ _ _ rfl ((hb3'.set 0 _).set 1 _))) rfl ?_
    rw [← HR.out]
    exact ⟨_, rfl, ownB_nil _ _, HI.out.cell hb3' (noByte_fault _ _) (by omega) (fr_set2 _ _ _ _), ((Fr.trans (Fr.of_grew (Grew.trans (grew_alloc _ _) (Drew.grew ⟨nd, rfl⟩))) hf).set _ 0 _ (fun h => absurd h (by omega))).set _ 1 _ (fun h => absurd h (by omega))⟩
  · rw [if_neg hs] at hR
    have HR := Lib.hid hR
    clear hR
    have hd : decide (((l.length - at_ : Nat) : Int) - (ahead : Int) < (n : Int)) = false := by simp; omega
    go_enter Tryz.func159, Tryz.ntmps159
    go_wp2_with fail
    refine (rest_any l p at_ _ h0).mono ?_
    rintro e1 w1 ⟨v, rfl, hv, nd, rfl⟩
    obtain ⟨a, c, rfl, k1, k2, -⟩ := hv.open
    unfold maxLen at k2
    obtain ⟨a', hrun, hbs⟩ := slc_full hv ahead (ahead + n) (ahead + n) (by omega) (by rw [List.length_drop]; omega) (Nat.le_refl _) (by rw [List.length_drop] at k1; omega)
    have hbs1 := hbs _ hv
    rw [List.length_drop] at hrun k1 ⊢
    push_cast at hrun
    have e1 : ahead + n - ahead = n := by omega
    rw [e1, List.drop_drop] at hbs1
    rw [e1] at hrun
    clear hbs e1
    go_wp2_with fail
    refine (end_at l p at_ _ (ahead + n) 0 (by push_cast; rfl) (fun he => by omega) _ (h0.grew (Drew.grew ⟨nd, rfl⟩))).mono ?_
    rintro e3 w3 ⟨rfl, hi, hf⟩
    have hbs3 := (h0.grew (Drew.grew ⟨nd, rfl⟩)).bs hf hbs1
    have hb3' := (hb0.grew (Drew.grew ⟨nd, rfl⟩)).fr hf (by omega)
    have hsz3 : w.heap.size + 1 ≤ w3.heap.size := by have := hf.size; simp at this; omega
    clear hrun hbs1
    rw [show outF 0 at_ = faultV 0 0 from rfl]
    rw [if_pos rfl] at hi
    have hg4 := grew_alloc w3 (.cells #[.int .i64 0, .int .i64 0] 32)
    have hb4 := Blk.new w3 32 #[.int .i64 0, .int .i64 0]
    obtain ⟨b0, b1, -, -⟩ := cells_of hb4
    have hlen : ((l.drop (at_ + ahead)).take n).length = n := by rw [List.length_take, List.length_drop]; omega
    have hbs4 := hbs3.grew hg4
    have kc := fun (m : Nat) => clone_any ((l.drop (at_ + ahead)).take n) _ _ (hbs4.grew (Drew.grew ⟨m, rfl⟩)) (by rw [hlen]; omega)
    have HLEN := Lib.hid hlen
    have hne5 : w3.heap.size ≠ w.heap.size := by omega
    have hB3 := hb3'.grew hg4
    clear hlen hbs3 hbs4
    go_wp2
    go_region_held3 (fun W => W.cell? ⟨w3.heap.size, 0, none⟩ = some (.int .i64 0) ∧ W.cell? ⟨w3.heap.size, 1, none⟩ = some (.int .i64 0)) (first | go_keep | exact ⟨hk0, hk1⟩ | exact ⟨z0, z1⟩) ((go_at_call 77; refine (kc 1).mono ?_; rintro e5 W5 ⟨v5, rfl, ho5, g5⟩; have hk0 := (below_ext g5) _ _ b0; have hk1 := (below_ext g5) _ _ b1; have hB5 := (hB3.grew (Drew.grew ⟨1, rfl⟩)).grew g5; obtain ⟨q0, q1, q2, q3⟩ := cells_of hB5; obtain ⟨z0, z1, -, -⟩ := cells_of ((((hb4.grew (Drew.grew ⟨1, rfl⟩)).grew g5).other ⟨w.heap.size, 0, none⟩ (.int .i64 0) hne5).other ⟨w.heap.size, 1, none⟩ (.int .i64 0) hne5)))
    go_wp2
    have g35 := Grew.trans hg4 (Grew.trans (Drew.grew ⟨1, rfl⟩) g5)
    have hf3 := Fr.trans (Fr.of_grew (Grew.trans (grew_alloc _ _) (Drew.grew ⟨nd, rfl⟩))) hf
    refine bodyPost_ret (results_tc rfl _ _ ⟨w.heap.size, 0, none⟩ _ _ rfl rfl (loadVar_fault _ _ _ rfl ((hB5.set 0 _).set 1 _))) rfl ?_
    rw [← HR.out]
    refine ⟨_, rfl, ?_, (hi.grew g35).cell hB5 (noByte_fault _ _) (by omega) (fr_set2 _ _ _ _), ((hf3.trans (Fr.of_grew g35)).set _ 0 _ (fun h => absurd h (by omega))).set _ 1 _ (fun h => absurd h (by omega))⟩
    have hne : v5.ownBlock ≠ some w.heap.size := fun e => by have := (own_lt ho5 _ e).1; simp at this; omega
    exact own_set (own_set (own_mono ho5 (by simp; omega)) _ _ hne) _ _ hne
end Go.Proofs.YtbjoohafgkodcaaGreat
namespace Go.Proofs.YtbjoohafgkodcaaGreat
open Go Go.RowKit Go.Shelf
attribute [local go_sem] Oper.semAt_some
variable {K : Value → Prop}

def takeR (l : List UInt8) (at_ : Nat) (n : Int) : List UInt8 × Nat × Nat := if n < 0 then ([], 1, at_) else cutR l at_ 0 n.toNat

def bytesR (l : List UInt8) (at_ : Nat) (most : Int) : List UInt8 × Nat × Nat :=
  if (vget (l.drop at_)).2.2 ≠ 0 then ([], (vget (l.drop at_)).2.2, at_)
  else if most < 0 ∨ most < ((vget (l.drop at_)).1 : Int) then ([], 2, at_)
  else cutR l at_ (vget (l.drop at_)).2.1 (vget (l.drop at_)).1
set_option maxRecDepth 10000 in
set_option maxHeartbeats 4000000 in
theorem ibytes_any (l : List UInt8) (p at_ : Nat) (n : Int) (hn0 : -9223372036854775808 ≤ n) (hn : n ≤ 9223372036854775807) (hl : l.length ≤ 1000000000) (w : World) (h : InI K w p l at_) : Calls Tryz.prog 144 #[.pointer (some ⟨p, 0, none⟩), .int .i64 n] w fun e w' => ∃ v, e = .returned (.tuple #[v, outF (bytesR l at_ n).2.1 at_]) ∧ OwnB w' w.heap.size v (bytesR l at_ n).1 ∧ InI K w' p l (bytesR l at_ n).2.2 ∧ Fr (· = p) w w' := by
  have hbd := vget_bd (l.drop at_)
  have hat : at_ ≤ l.length := h.choose_spec.2.2.1
  rw [List.length_drop] at hbd
  have hp := h.lt
  have h0 := h.grew (grew_alloc w (.cells #[.int .i64 0, .int .i64 0] 32))
  have hb0 := Blk.new w 32 #[.int .i64 0, .int .i64 0]
  have K := fun v w hb => get_any (l.drop at_) v w hb
  obtain ⟨R, hTR⟩ : ∃ R, bytesR l at_ n = R := ⟨_, rfl⟩
  rw [hTR]
  unfold bytesR at hTR
  obtain ⟨⟨num, k, e⟩, hR⟩ : ∃ R, vget (l.drop at_) = R := ⟨_, rfl⟩
  simp only [hR] at hbd K hTR
  obtain ⟨hb1, hb2, hb3, hb4, hb5⟩ := hbd
  have KG := Lib.hid K
  clear hR K hb4 hb5
  by_cases he : e = 0
  case neg =>
    rw [if_pos he] at hTR
    have HT := Lib.hid hTR
    have hne : ((e : Int) != 0) = true := by simp; omega
    have HE := Lib.hid he
    clear hTR he
    go_enter Tryz.func144, Tryz.ntmps144
    go_wp2_with fail
    refine (rest_any l p at_ _ h0).mono ?_
    rintro e1 w1 ⟨v, rfl, hv, nd, rfl⟩
    go_wp2_with fail
    refine (KG.out v _ hv).mono ?_
    rintro e2 w2 ⟨rfl, rfl⟩
    go_wp2_with fail
    refine (end_any l p at_ 0 e (fun he => absurd he HE.out) _ (h0.grew (Drew.grew ⟨nd, rfl⟩))).mono ?_
    rintro e3 w3 ⟨rfl, hi, hf⟩
    rw [if_neg HE.out] at hi
    have hb3' := (hb0.grew (Drew.grew ⟨nd, rfl⟩)).fr hf (by omega)
    obtain ⟨c0, c1, f0, f1⟩ := cells_of hb3'
    clear hb0 h0
    go_wp2
    refine bodyPost_ret (results_tc rfl _ _ ⟨w.heap.size, 0, none⟩ _ _ rfl rfl (loadVar_fault _ _ _ rfl ((hb3'.set 0 _).set 1 _))) rfl ?_
    rw [← HT.out]
    exact ⟨_, rfl, ownB_nil _ _, hi.cell hb3' (noByte_fault _ _) (by omega) (fr_set2 _ _ _ _), ((Fr.trans (Fr.of_grew (Grew.trans (grew_alloc _ _) (Drew.grew ⟨nd, rfl⟩))) hf).set _ 0 _ (fun h => absurd h (by omega))).set _ 1 _ (fun h => absurd h (by omega))⟩
  subst he
  rw [if_neg (by simp)] at hTR
  by_cases hm : n < 0 ∨ n < (num : Int)
  · rw [if_pos hm] at hTR
    have HT := Lib.hid hTR
    clear hTR
    have hmm : n < 0 ∨ (0 ≤ n ∧ n < (num : Int)) := by omega
    clear hm
    rcases hmm with hm | ⟨hm0, hm⟩
    all_goals
      go_enter Tryz.func144, Tryz.ntmps144
      go_wp2_with fail
      refine (rest_any l p at_ _ h0).mono ?_
      rintro e1 w1 ⟨v, rfl, hv, nd, rfl⟩
      go_wp2_with fail
      refine (KG.out v _ hv).mono ?_
      rintro e2 w2 ⟨rfl, rfl⟩
      go_wp2_with fail
      refine (end_any l p at_ 0 2 (fun he => by omega) _ (h0.grew (Drew.grew ⟨nd, rfl⟩))).mono ?_
      rintro e3 w3 ⟨rfl, hi, hf⟩
      rw [if_neg (by omega)] at hi
      have hb3' := (hb0.grew (Drew.grew ⟨nd, rfl⟩)).fr hf (by omega)
      obtain ⟨c0, c1, f0, f1⟩ := cells_of hb3'
      clear hb0 h0
      go_wp2
      refine bodyPost_ret (results_tc rfl _ _ ⟨w.heap.size, 0, none⟩ _ _ rfl rfl (loadVar_fault _ _ _ rfl ((hb3'.set 0 _).set 1 _))) rfl ?_
      rw [← HT.out]
      exact ⟨_, rfl, ownB_nil _ _, hi.cell hb3' (noByte_fault _ _) (by omega) (fr_set2 _ _ _ _), ((Fr.trans (Fr.of_grew (Grew.trans (grew_alloc _ _) (Drew.grew ⟨nd, rfl⟩))) hf).set _ 0 _ (fun h => absurd h (by omega))).set _ 1 _ (fun h => absurd h (by omega))⟩
  · rw [if_neg hm] at hTR
    have hm0 : 0 ≤ n := by omega
    have hm1 : (num : Int) ≤ n := by omega
    clear hm
    by_cases hs : l.length - at_ < num
    · have hT2 : (([], 4, at_) : List UInt8 × Nat × Nat) = R := by rw [← hTR, cutR, if_pos (by omega)]
      have HT := Lib.hid hT2
      clear hTR hT2
      have hs' : ((l.length - at_ : Nat) : Int) < (num : Int) := by omega
      go_enter Tryz.func144, Tryz.ntmps144
      go_wp2_with fail
      refine (rest_any l p at_ _ h0).mono ?_
      rintro e1 w1 ⟨v, rfl, hv, nd, rfl⟩
      go_wp2_with fail
      refine (KG.out v _ hv).mono ?_
      rintro e2 w2 ⟨rfl, rfl⟩
      go_wp2_with fail
      refine (left_any l p at_ _ (h0.grew (Drew.grew ⟨nd, rfl⟩))).mono ?_
      rintro e2 w2 ⟨rfl, nd2, rfl⟩
      go_wp2_with fail
      refine (end_any l p at_ 0 4 (fun he => by omega) _ (h0.grew (Drew.grew ⟨nd + nd2, rfl⟩))).mono ?_
      rintro e3 w3 ⟨rfl, hi, hf⟩
      rw [if_neg (by omega)] at hi
      have hb3' := (hb0.grew (Drew.grew ⟨nd + nd2, rfl⟩)).fr hf (by omega)
      obtain ⟨c0, c1, f0, f1⟩ := cells_of hb3'
      clear hb0 h0
      go_wp2
      refine bodyPost_ret (results_tc rfl _ _ ⟨w.heap.size, 0, none⟩ _ _ rfl rfl (loadVar_fault _ _ _ rfl ((hb3'.set 0 _).set 1 _))) rfl ?_
      rw [← HT.out]
      exact ⟨_, rfl, ownB_nil _ _, hi.cell hb3' (noByte_fault _ _) (by omega) (fr_set2 _ _ _ _), ((Fr.trans (Fr.of_grew (Grew.trans (grew_alloc _ _) (Drew.grew ⟨nd + nd2, rfl⟩))) hf).set _ 0 _ (fun h => absurd h (by omega))).set _ 1 _ (fun h => absurd h (by omega))⟩
    · have hs' : (num : Int) ≤ ((l.length - at_ : Nat) : Int) := by omega
      have kc := fun w (h : InI K w p l at_) => icut_any l p at_ k num hb2 (by omega) hl w h
      rw [hTR] at kc
      have KC := Lib.hid kc
      clear hTR kc hs
      go_enter Tryz.func144, Tryz.ntmps144
      go_wp2_with fail
      refine (rest_any l p at_ _ h0).mono ?_
      rintro e1 w1 ⟨v, rfl, hv, nd, rfl⟩
      go_wp2_with fail
      refine (KG.out v _ hv).mono ?_
      rintro e2 w2 ⟨rfl, rfl⟩
      go_wp2_with fail
      refine (left_any l p at_ _ (h0.grew (Drew.grew ⟨nd, rfl⟩))).mono ?_
      rintro e2 w2 ⟨rfl, nd2, rfl⟩
      go_wp2_with fail
      refine (KC.out _ (h0.grew (Drew.grew ⟨nd + nd2, rfl⟩))).mono ?_
      rintro e3 w3 ⟨v3, rfl, ho, hi, hf⟩
      have hb3' := (hb0.grew (Drew.grew ⟨nd + nd2, rfl⟩)).fr hf (by omega)
      obtain ⟨c0, c1, f0, f1⟩ := cells_of hb3'
      have HI := Lib.hid hi
      clear hb0 h0 hi
      go_wp2
      refine bodyPost_ret (results_tc rfl _ _ ⟨w.heap.size, 0, none⟩ _ _ rfl rfl (loadVar_fault _ _ _ rfl ((hb3'.set 0 _).set 1 _))) rfl ?_
      refine ⟨_, rfl, ?_, HI.out.cell hb3' (noByte_fault _ _) (by omega) (fr_set2 _ _ _ _), ((Fr.trans (Fr.of_grew (Grew.trans (grew_alloc _ _) (Drew.grew ⟨nd + nd2, rfl⟩))) hf).set _ 0 _ (fun h => absurd h (by omega))).set _ 1 _ (fun h => absurd h (by omega))⟩
      have hne : v3.ownBlock ≠ some w.heap.size := fun e => by have := (own_lt ho _ e).1; simp at this; omega
      exact own_set (own_set (own_mono ho (by simp)) _ _ hne) _ _ hne
end Go.Proofs.YtbjoohafgkodcaaGreat
namespace Go.Proofs.YtbjoohafgkodcaaGreat
open Go Go.RowKit Go.Shelf
attribute [local go_sem] Oper.semAt_some
variable {K : Value → Prop}

abbrev InR (K : Value → Prop) (w : World) (p : Nat) (l : List UInt8) (a : Nat) : Prop := InS 129 K w p l a

theorem fault_any (l : List UInt8) (p at_ e : Nat) (w : World) (h : InR K w p l at_) : Calls Tryz.prog 117 #[.pointer (some ⟨p, 0, none⟩), .int .i64 e] w fun e' w' => e' = .returned (outF e at_) ∧ Grew w w' := by
  have hlt := h.lt
  obtain ⟨v, hb0, hv, hat, -⟩ := id h
  have hp := hb0.grew (grew_alloc w (.cells #[.int .i64 0, .int .i64 0] 32))
  have c1 := hp.cell 1
  simp only [List.getElem?_toArray, List.getElem?_cons_zero, List.getElem?_cons_succ] at c1
  by_cases he : e = 0
  · subst he
    rw [show outF 0 at_ = faultV 0 0 from rfl]
    go_enter Tryz.func117, Tryz.ntmps117
    go_wp2
    refine bodyPost_ret (results_c rfl _ _ ⟨w.heap.size, 0, none⟩ _ rfl (loadVar_fault _ _ _ rfl (Blk.new _ _ _))) rfl ⟨rfl, grew_alloc _ _⟩
  · rw [show outF e at_ = faultV e at_ by rw [outF, fltAt, if_neg he]]
    have hne : ((e : Int) == 0) = false := by simp; omega
    clear he
    go_enter Tryz.func117, Tryz.ntmps117
    go_wp2
    refine bodyPost_ret (results_c rfl _ _ ⟨w.heap.size, 0, none⟩ _ rfl (loadVar_fault _ _ _ rfl (Blk.new _ _ _))) rfl ⟨rfl, grew_alloc _ _⟩

set_option maxRecDepth 10000 in
set_option maxHeartbeats 2000000 in
theorem rvarint_any (l : List UInt8) (p at_ : Nat) (w : World) (h : InR K w p l at_) : Calls Tryz.prog 94 #[.pointer (some ⟨p, 0, none⟩)] w fun e w' => e = .returned (.tuple #[.int .u64 (vget (l.drop at_)).1, outF (vget (l.drop at_)).2.2 at_]) ∧ InR K w' p l (at_ + (vget (l.drop at_)).2.1) ∧ Fr (· = p) w w' := by
  have hbd := vget_bd (l.drop at_)
  rw [List.length_drop] at hbd
  have hp := h.lt
  obtain ⟨v, hpw, hvw, hat, hkk⟩ := id h
  have HKK := Lib.hid hkk
  clear hkk
  obtain ⟨a, c, rfl, l1, l2, -⟩ := hvw.open
  unfold maxLen at l2
  have h0 := h.grew (grew_alloc w (.cells #[.int .i64 0, .int .i64 0] 32))
  have hp0 := hpw.grew (grew_alloc w (.cells #[.int .i64 0, .int .i64 0] 32))
  have hv := hvw.grew (grew_alloc w (.cells #[.int .i64 0, .int .i64 0] 32))
  have hb0 := Blk.new w 32 #[.int .i64 0, .int .i64 0]
  have K := fun v w hb => rget_any (l.drop at_) v w hb
  obtain ⟨⟨n, k, e⟩, hR⟩ : ∃ R, vget (l.drop at_) = R := ⟨_, rfl⟩
  simp only [hR] at hbd K ⊢
  obtain ⟨hb1, hb2, hb3, hb4, hb5⟩ := hbd
  have KG := Lib.hid K
  clear hR K hb5 hb4
  obtain ⟨d0, d1, -, -⟩ := cells_of hp0
  obtain ⟨a', c', hrun, hbs⟩ := slc_from hv at_ hat
  have HBS := Lib.hid hbs
  clear hbs
  go_enter Tryz.func94, Tryz.ntmps94
  go_wp2
  go_quiet ((go_at_call 116; exact quiet_eq (KG.out _ _ (HBS.out _ (hv.drew _)))))
  clear d0 d1 hrun
  go_wp2_with fail
  refine (fault_any l p at_ e _ (h0.grew (Drew.grew ⟨nq, rfl⟩))).mono ?_
  rintro e3 w3 ⟨rfl, g3⟩
  have g03 := Grew.trans (Drew.grew ⟨nq, rfl⟩) g3
  have hb3' := hb0.grew g03
  have hb7 := Blk.new w3 32 #[.int .i64 e, .int .i64 (fltAt e at_)]
  have hp3 := hp0.grew g03
  obtain ⟨d0, d1, d2, d3⟩ := cells_of hp3
  obtain ⟨x0, x1, x2, x3⟩ := cells_of hb3'
  obtain ⟨y0, y1, -, -⟩ := cells_of hb7
  have n1 : w.heap.size ≠ p := by omega
  have n2 : p ≠ w.heap.size := by omega
  have n3 : p < w3.heap.size := by have := g03.size; simp at this; omega
  have n4 : w.heap.size < w3.heap.size := by have := g03.size; simp at this; omega
  clear h0 hb0 hv hp0
  go_wp2
  go_region
  go_wp2
  have hf3 : Fr (· = p) w w3 := Fr.of_grew (Grew.trans (grew_alloc _ _) g03)
  have eB := ((((hb3'.other ⟨p, 1, none⟩ (.int .i64 (at_ + k)) n1).set 0 (.int .i64 e)).set 1 (.int .i64 (fltAt e at_))).alloc (.cells #[.int .i64 e, .int .i64 (fltAt e at_)] 32)).drew
  refine bodyPost_ret (results_tc rfl _ _ ⟨w.heap.size, 0, none⟩ _ _ rfl rfl (loadVar_fault _ _ _ rfl eB)) rfl ?_
  have eF := ((((hf3.set _ 1 (.int .i64 (at_ + k)) (fun _ => rfl)).set w.heap.size 0 (.int .i64 e) (fun h => absurd h (by omega))).set w.heap.size 1 (.int .i64 (fltAt e at_)) (fun h => absurd h (by omega))).alloc (.cells #[.int .i64 e, .int .i64 (fltAt e at_)] 32)).drew
  have ep := (((((hp3.set 1 (.int .i64 (at_ + k))).other ⟨w.heap.size, 0, none⟩ (.int .i64 e) n2).other ⟨w.heap.size, 1, none⟩ (.int .i64 (fltAt e at_)) n2).alloc (.cells #[.int .i64 e, .int .i64 (fltAt e at_)] 32)).drew)
  refine ⟨rfl, ⟨_, ?_, h.bs eF hvw, by omega, HKK.out⟩, eF⟩
  push_cast
  exact ep

set_option maxRecDepth 10000 in
set_option maxHeartbeats 4000000 in
theorem rtag_any (l : List UInt8) (p at_ : Nat) (w : World) (h : InR K w p l at_) : Calls Tryz.prog 93 #[.pointer (some ⟨p, 0, none⟩)] w fun e w' => e = .returned (.tuple #[.int .i64 (tagR l at_).1, .int .u8 (tagR l at_).2.1, outF (tagR l at_).2.2.1 at_]) ∧ InR K w' p l (tagR l at_).2.2.2 ∧ Fr (· = p) w w' := by
  have hbd := vget_bd (l.drop at_)
  rw [List.length_drop] at hbd
  have hp := h.lt
  obtain ⟨v, hpw, hvw, hat, hkk⟩ := id h
  have HKK := Lib.hid hkk
  clear hkk
  obtain ⟨a, c, rfl, l1, l2, -⟩ := hvw.open
  unfold maxLen at l2
  have h0 := h.grew (grew_alloc w (.cells #[.int .i64 0, .int .i64 0] 32))
  have hp0 := hpw.grew (grew_alloc w (.cells #[.int .i64 0, .int .i64 0] 32))
  have hv := hvw.grew (grew_alloc w (.cells #[.int .i64 0, .int .i64 0] 32))
  have hb0 := Blk.new w 32 #[.int .i64 0, .int .i64 0]
  have K := fun v w hb => rget_any (l.drop at_) v w hb
  obtain ⟨R, hTR⟩ : ∃ R, tagR l at_ = R := ⟨_, rfl⟩
  rw [hTR]
  unfold tagR at hTR
  obtain ⟨⟨n, k, e⟩, hR⟩ : ∃ R, vget (l.drop at_) = R := ⟨_, rfl⟩
  simp only [hR] at hbd K hTR
  obtain ⟨hb1, hb2, hb3, hb4, hb5⟩ := hbd
  have KG := Lib.hid K
  clear hR K hb5 hb4
  obtain ⟨d0, d1, -, -⟩ := cells_of hp0
  obtain ⟨a', c', hrun, hbs⟩ := slc_from hv at_ hat
  have HBS := Lib.hid hbs
  clear hbs
  by_cases he : e = 0
  case neg =>
    rw [if_pos he] at hTR
    have HT := Lib.hid hTR
    have hne : ((e : Int) != 0) = true := by simp; omega
    clear hTR he
    go_enter Tryz.func93, Tryz.ntmps93
    go_wp2
    go_quiet ((go_at_call 116; exact quiet_eq (KG.out _ _ (HBS.out _ (hv.drew _)))))
    clear d0 d1 hrun
    go_wp2_with fail
    refine (fault_any l p at_ e _ (h0.grew (Drew.grew ⟨nq, rfl⟩))).mono ?_
    rintro e3 w3 ⟨rfl, g3⟩
    have g03 := Grew.trans (Drew.grew ⟨nq, rfl⟩) g3
    have hb3' := hb0.grew g03
    have hp3 := hp0.grew g03
    obtain ⟨x0, x1, x2, x3⟩ := cells_of hb3'
    have n2 : p ≠ w.heap.size := by omega
    clear h0 hb0 hv hp0
    go_wp2
    have hf3 : Fr (· = p) w w3 := Fr.of_grew (Grew.trans (grew_alloc _ _) g03)
    refine bodyPost_ret (results_ttc rfl _ _ ⟨w.heap.size, 0, none⟩ _ _ _ rfl rfl rfl (loadVar_fault _ _ _ rfl ((hb3'.set 0 _).set 1 _))) rfl ?_
    rw [← HT.out]
    have eF := (hf3.set w.heap.size 0 (.int .i64 e) (fun h => absurd h (by omega))).set w.heap.size 1 (.int .i64 (fltAt e at_)) (fun h => absurd h (by omega))
    exact ⟨rfl, ⟨_, (hp3.other ⟨w.heap.size, 0, none⟩ (.int .i64 e) n2).other ⟨w.heap.size, 1, none⟩ (.int .i64 (fltAt e at_)) n2, h.bs eF hvw, hat, HKK.out⟩, eF⟩
  subst he
  rw [if_neg (by simp)] at hTR
  have KS := fun w => rsplit_any n hb1 w
  have hse := tsplit_err n
  obtain ⟨⟨num, wire, g⟩, hS⟩ : ∃ S, tsplit n = S := ⟨_, rfl⟩
  simp only [hS] at KS hTR hse
  have KSH := Lib.hid KS
  clear KS hS
  by_cases hg : g = 0
  · subst hg
    rw [if_neg (by simp)] at hTR
    have HT := Lib.hid hTR
    clear hTR hse
    go_enter Tryz.func93, Tryz.ntmps93
    go_wp2
    go_quiet ((go_at_call 116; exact quiet_eq (KG.out _ _ (HBS.out _ (hv.drew _)))))
    clear d0 d1 hrun
    go_wp2_with fail
    refine (KSH.out _).mono ?_
    rintro e2 w2 ⟨rfl, rfl⟩
    go_wp2_with fail
    refine (fault_any l p at_ 0 _ (h0.grew (Drew.grew ⟨nq, rfl⟩))).mono ?_
    rintro e3 w3 ⟨rfl, g3⟩
    rw [show outF 0 at_ = faultV 0 0 from rfl]
    have g03 := Grew.trans (Drew.grew ⟨nq, rfl⟩) g3
    have hb3' := hb0.grew g03
    have hb7 := Blk.new w3 32 #[.int .i64 0, .int .i64 0]
    have hp3 := hp0.grew g03
    obtain ⟨d0, d1, d2, d3⟩ := cells_of hp3
    obtain ⟨x0, x1, x2, x3⟩ := cells_of hb3'
    obtain ⟨y0, y1, -, -⟩ := cells_of hb7
    have n1 : w.heap.size ≠ p := by omega
    have n2 : p ≠ w.heap.size := by omega
    have n3 : p < w3.heap.size := by have := g03.size; simp at this; omega
    have n4 : w.heap.size < w3.heap.size := by have := g03.size; simp at this; omega
    clear h0 hb0 hv hp0
    go_wp2
    go_region
    go_wp2
    have hf3 : Fr (· = p) w w3 := Fr.of_grew (Grew.trans (grew_alloc _ _) g03)
    have eB := ((((hb3'.other ⟨p, 1, none⟩ (.int .i64 (at_ + k)) n1).set 0 (.int .i64 0)).set 1 (.int .i64 0)).alloc (.cells #[.int .i64 0, .int .i64 0] 32)).drew
    refine bodyPost_ret (results_ttc rfl _ _ ⟨w.heap.size, 0, none⟩ _ _ _ rfl rfl rfl (loadVar_fault _ _ _ rfl eB)) rfl ?_
    rw [← HT.out]
    have eF := ((((hf3.set _ 1 (.int .i64 (at_ + k)) (fun _ => rfl)).set w.heap.size 0 (.int .i64 0) (fun h => absurd h (by omega))).set w.heap.size 1 (.int .i64 0) (fun h => absurd h (by omega))).alloc (.cells #[.int .i64 0, .int .i64 0] 32)).drew
    have ep := (((((hp3.set 1 (.int .i64 (at_ + k))).other ⟨w.heap.size, 0, none⟩ (.int .i64 0) n2).other ⟨w.heap.size, 1, none⟩ (.int .i64 0) n2).alloc (.cells #[.int .i64 0, .int .i64 0] 32)).drew)
    refine ⟨rfl, ⟨_, ?_, h.bs eF hvw, by simp; omega, HKK.out⟩, eF⟩
    push_cast
    exact ep
  · rw [if_pos hg] at hTR
    obtain ⟨rfl, rfl⟩ := hse hg
    have HT := Lib.hid hTR
    have hne : ((g : Int) == 0) = false := by simp; omega
    clear hTR hse hg
    go_enter Tryz.func93, Tryz.ntmps93
    go_wp2
    go_quiet ((go_at_call 116; exact quiet_eq (KG.out _ _ (HBS.out _ (hv.drew _)))))
    clear d0 d1 hrun
    go_wp2_with fail
    refine (KSH.out _).mono ?_
    rintro e2 w2 ⟨rfl, rfl⟩
    go_wp2_with fail
    refine (fault_any l p at_ g _ (h0.grew (Drew.grew ⟨nq, rfl⟩))).mono ?_
    rintro e3 w3 ⟨rfl, g3⟩
    have g03 := Grew.trans (Drew.grew ⟨nq, rfl⟩) g3
    have hb3' := hb0.grew g03
    have hb7 := Blk.new w3 32 #[.int .i64 g, .int .i64 (fltAt g at_)]
    have hp3 := hp0.grew g03
    obtain ⟨x0, x1, x2, x3⟩ := cells_of hb3'
    obtain ⟨y0, y1, -, -⟩ := cells_of hb7
    have n2 : p ≠ w.heap.size := by omega
    have n4 : w.heap.size < w3.heap.size := by have := g03.size; simp at this; omega
    clear h0 hb0 hv hp0
    go_wp2
    go_region
    go_wp2
    have hf3 : Fr (· = p) w w3 := Fr.of_grew (Grew.trans (grew_alloc _ _) g03)
    have eB := (((hb3'.set 0 (.int .i64 g)).set 1 (.int .i64 (fltAt g at_))).alloc (.cells #[.int .i64 g, .int .i64 (fltAt g at_)] 32)).drew
    refine bodyPost_ret (results_ttc rfl _ _ ⟨w.heap.size, 0, none⟩ _ _ _ rfl rfl rfl (loadVar_fault _ _ _ rfl eB)) rfl ?_
    rw [← HT.out]
    have eF := (((hf3.set w.heap.size 0 (.int .i64 g) (fun h => absurd h (by omega))).set w.heap.size 1 (.int .i64 (fltAt g at_)) (fun h => absurd h (by omega))).alloc (.cells #[.int .i64 g, .int .i64 (fltAt g at_)] 32)).drew
    have ep := ((((hp3.other ⟨w.heap.size, 0, none⟩ (.int .i64 g) n2).other ⟨w.heap.size, 1, none⟩ (.int .i64 (fltAt g at_)) n2).alloc (.cells #[.int .i64 g, .int .i64 (fltAt g at_)] 32)).drew)
    exact ⟨rfl, ⟨_, ep, h.bs eF hvw, hat, HKK.out⟩, eF⟩

set_option maxRecDepth 10000 in
set_option maxHeartbeats 4000000 in
theorem rfixed_any (l : List UInt8) (p at_ k : Nat) (hk : k ≤ 8) (w : World) (h : InR K w p l at_) : Calls Tryz.prog 95 #[.pointer (some ⟨p, 0, none⟩), .int .i64 k] w fun e w' => e = .returned (.tuple #[.int .u64 (fixR l at_ k).1, outF (fixR l at_ k).2.1 at_]) ∧ InR K w' p l (fixR l at_ k).2.2 ∧ Fr (· = p) w w' := by
  have hp := h.lt
  obtain ⟨v, hpw, hvw, hat, hkk⟩ := id h
  have HKK := Lib.hid hkk
  clear hkk
  obtain ⟨a, c, rfl, l1, l2, -⟩ := hvw.open
  unfold maxLen at l2
  have h0 := h.grew (grew_alloc w (.cells #[.int .i64 0, .int .i64 0] 32))
  have hp0 := hpw.grew (grew_alloc w (.cells #[.int .i64 0, .int .i64 0] 32))
  have hv := hvw.grew (grew_alloc w (.cells #[.int .i64 0, .int .i64 0] 32))
  have hb0 := Blk.new w 32 #[.int .i64 0, .int .i64 0]
  obtain ⟨R, hTR⟩ : ∃ R, fixR l at_ k = R := ⟨_, rfl⟩
  rw [hTR]
  unfold fixR at hTR
  obtain ⟨d0, d1, -, -⟩ := cells_of hp0
  by_cases hs : (l.drop at_).length < k
  · rw [if_pos hs] at hTR
    rw [List.length_drop] at hs
    have HT := Lib.hid hTR
    have hs' : (l.length : Int) - (at_ : Int) < (k : Int) := by omega
    clear hTR
    go_enter Tryz.func95, Tryz.ntmps95
    go_wp2
    go_quiet (fail)
    clear d0 d1
    go_wp2_with fail
    refine (fault_any l p at_ 4 _ (h0.grew (Drew.grew ⟨nq, rfl⟩))).mono ?_
    rintro e3 w3 ⟨rfl, g3⟩
    have g03 := Grew.trans (Drew.grew ⟨nq, rfl⟩) g3
    have hb3' := hb0.grew g03
    have hp3 := hp0.grew g03
    obtain ⟨x0, x1, x2, x3⟩ := cells_of hb3'
    have n2 : p ≠ w.heap.size := by omega
    clear h0 hb0 hv hp0
    go_wp2
    have hf3 : Fr (· = p) w w3 := Fr.of_grew (Grew.trans (grew_alloc _ _) g03)
    refine bodyPost_ret (results_tc rfl _ _ ⟨w.heap.size, 0, none⟩ _ _ rfl rfl (loadVar_fault _ _ _ rfl ((hb3'.set 0 _).set 1 _))) rfl ?_
    rw [← HT.out]
    have eF := (hf3.set w.heap.size 0 (.int .i64 4) (fun h => absurd h (by omega))).set w.heap.size 1 (.int .i64 (fltAt 4 at_)) (fun h => absurd h (by omega))
    exact ⟨rfl, ⟨_, (hp3.other ⟨w.heap.size, 0, none⟩ (.int .i64 4) n2).other ⟨w.heap.size, 1, none⟩ (.int .i64 (fltAt 4 at_)) n2, h.bs eF hvw, hat, HKK.out⟩, eF⟩
  · rw [if_neg hs] at hTR
    have hsl : k ≤ (l.drop at_).length := by omega
    have ku := fun v w hb => runfix_any (l.drop at_) k hk hsl v w hb
    have hul := unfix_take_lt (l.drop at_) k hsl
    have hp8 : (256 : Nat) ^ k ≤ 18446744073709551616 := by
      rw [show (18446744073709551616 : Nat) = 256 ^ 8 by decide]; exact Nat.pow_le_pow_right (by decide) hk
    obtain ⟨num, hnum⟩ : ∃ num, unfix ((l.drop at_).take k) = num := ⟨_, rfl⟩
    simp only [hnum] at ku hTR
    rw [List.length_drop] at hsl
    have HT := Lib.hid hTR
    have KU := Lib.hid ku
    have hs' : (k : Int) ≤ (l.length : Int) - (at_ : Int) := by omega
    have hd : decide ((l.length : Int) - (at_ : Int) < (k : Int)) = false := by simp; omega
    obtain ⟨a', c', hrun, hbs⟩ := slc_from hv at_ hat
    have HBS := Lib.hid hbs
    clear hbs hTR ku hnum hul hp8 hs
    go_enter Tryz.func95, Tryz.ntmps95
    go_wp2
    go_quiet (fail)
    rename Nat => nq1
    go_wp2
    go_quiet ((go_at_call 119; exact quiet_eq2 (KU.out _ _ (HBS.out _ (hv.drew _)))))
    clear d0 d1 hrun hs' hd
    have hb3' := (hb0.drewN (nq1 + nq))
    have hp3 := (hp0.drewN (nq1 + nq))
    obtain ⟨d0, d1, d2, d3⟩ := cells_of hp3
    obtain ⟨x0, x1, x2, x3⟩ := cells_of hb3'
    have n1 : w.heap.size ≠ p := by omega
    have n2 : p ≠ w.heap.size := by omega
    clear h0 hb0 hv hp0
    go_wp2
    have eB := ((hb3'.other ⟨p, 1, none⟩ (.int .i64 (at_ + k)) n1).set 0 (.int .i64 0)).set 1 (.int .i64 0)
    refine bodyPost_ret (results_tc rfl _ _ ⟨w.heap.size, 0, none⟩ _ _ rfl rfl (loadVar_fault _ _ _ rfl eB)) rfl ?_
    rw [← HT.out]
    have eF := (((Fr.of_grew (S := fun x => x = p) (Grew.trans (grew_alloc w (.cells #[.int .i64 0, .int .i64 0] 32)) (Drew.grew ⟨nq1 + nq, rfl⟩))).set _ 1 (.int .i64 (at_ + k)) (fun _ => rfl)).set w.heap.size 0 (.int .i64 0) (fun h => absurd h (by omega))).set w.heap.size 1 (.int .i64 0) (fun h => absurd h (by omega))
    have ep := (((hp3.set 1 (.int .i64 (at_ + k))).other ⟨w.heap.size, 0, none⟩ (.int .i64 0) n2).other ⟨w.heap.size, 1, none⟩ (.int .i64 0) n2)
    refine ⟨rfl, ⟨_, ?_, h.bs eF hvw, by simp; omega, HKK.out⟩, eF⟩
    push_cast
    exact ep

theorem fr_int {w : World} {p : Nat} (_hp : p < w.heap.size) {w' : World} (hf : Fr (fun x => x = p) (w.alloc (.cells #[.int .i64 0, .int .i64 0] 32)) w') : Fr (fun x => x = p) w w' := Fr.trans (Fr.of_grew (grew_alloc _ _)) hf

set_option maxRecDepth 10000 in
set_option maxHeartbeats 4000000 in
theorem rtake_any (l : List UInt8) (p at_ : Nat) (n : Int) (hn0 : -9223372036854775808 ≤ n) (hn : n ≤ 9223372036854775807) (hl : l.length ≤ 1000000000) (w : World) (h : InR K w p l at_) : Calls Tryz.prog 120 #[.pointer (some ⟨p, 0, none⟩), .int .i64 n] w fun e w' => ∃ v, e = .returned (.tuple #[v, outF (takeR l at_ n).2.1 at_]) ∧ OwnB w' w.heap.size v (takeR l at_ n).1 ∧ InR K w' p l (takeR l at_ n).2.2 ∧ Fr (· = p) w w' := by
  have hp := h.lt
  obtain ⟨v, hpw, hvw, hat, hkk⟩ := id h
  have HKK := Lib.hid hkk
  clear hkk
  obtain ⟨a, c, rfl, l1, l2, -⟩ := hvw.open
  unfold maxLen at l2
  have h0 := h.grew (grew_alloc w (.cells #[.int .i64 0, .int .i64 0] 32))
  have hp0 := hpw.grew (grew_alloc w (.cells #[.int .i64 0, .int .i64 0] 32))
  have hv := hvw.grew (grew_alloc w (.cells #[.int .i64 0, .int .i64 0] 32))
  have hb0 := Blk.new w 32 #[.int .i64 0, .int .i64 0]
  obtain ⟨R, hTR⟩ : ∃ R, takeR l at_ n = R := ⟨_, rfl⟩
  rw [hTR]
  unfold takeR at hTR
  obtain ⟨d0, d1, -, -⟩ := cells_of hp0
  have n2 : p ≠ w.heap.size := by omega
  have n1 : w.heap.size ≠ p := by omega
  by_cases hneg : n < 0
  · rw [if_pos hneg] at hTR
    have HT := Lib.hid hTR
    clear hTR d0 d1
    go_enter Tryz.func120, Tryz.ntmps120
    go_wp2_with fail
    refine (fault_any l p at_ 1 _ h0).mono ?_
    rintro e3 w3 ⟨rfl, g3⟩
    have hb3' := hb0.grew g3
    have hp3 := hp0.grew g3
    obtain ⟨x0, x1, x2, x3⟩ := cells_of hb3'
    clear h0 hb0 hv hp0
    go_wp2
    have hf3 : Fr (· = p) w w3 := Fr.of_grew (Grew.trans (grew_alloc _ _) g3)
    refine bodyPost_ret (results_tc rfl _ _ ⟨w.heap.size, 0, none⟩ _ _ rfl rfl (loadVar_fault _ _ _ rfl ((hb3'.set 0 _).set 1 _))) rfl ?_
    rw [← HT.out]
    have eF := (hf3.set w.heap.size 0 (.int .i64 1) (fun h => absurd h (by omega))).set w.heap.size 1 (.int .i64 (fltAt 1 at_)) (fun h => absurd h (by omega))
    exact ⟨_, rfl, ownB_nil _ _, ⟨_, (hp3.other ⟨w.heap.size, 0, none⟩ (.int .i64 1) n2).other ⟨w.heap.size, 1, none⟩ (.int .i64 (fltAt 1 at_)) n2, h.bs eF hvw, hat, HKK.out⟩, eF⟩
  rw [if_neg hneg] at hTR
  obtain ⟨m, rfl⟩ := Int.eq_ofNat_of_zero_le (by omega : 0 ≤ n)
  rw [Int.toNat_natCast] at hTR
  unfold cutR at hTR
  rw [Nat.zero_add] at hTR
  have hd0 : decide ((m : Int) < 0) = false := by simp
  by_cases hs : l.length - at_ < m
  · rw [if_pos hs] at hTR
    have HT := Lib.hid hTR
    have hs' : (l.length : Int) - (at_ : Int) < (m : Int) := by omega
    clear hTR hneg
    go_enter Tryz.func120, Tryz.ntmps120
    go_wp2
    go_quiet (fail)
    clear d0 d1
    go_wp2_with fail
    refine (fault_any l p at_ 4 _ (h0.grew (Drew.grew ⟨nq, rfl⟩))).mono ?_
    rintro e3 w3 ⟨rfl, g3⟩
    have g03 := Grew.trans (Drew.grew ⟨nq, rfl⟩) g3
    have hb3' := hb0.grew g03
    have hp3 := hp0.grew g03
    obtain ⟨x0, x1, x2, x3⟩ := cells_of hb3'
    clear h0 hb0 hv hp0
    go_wp2
    have hf3 : Fr (· = p) w w3 := Fr.of_grew (Grew.trans (grew_alloc _ _) g03)
    refine bodyPost_ret (results_tc rfl _ _ ⟨w.heap.size, 0, none⟩ _ _ rfl rfl (loadVar_fault _ _ _ rfl ((hb3'.set 0 _).set 1 _))) rfl ?_
    rw [← HT.out]
    have eF := (hf3.set w.heap.size 0 (.int .i64 4) (fun h => absurd h (by omega))).set w.heap.size 1 (.int .i64 (fltAt 4 at_)) (fun h => absurd h (by omega))
    exact ⟨_, rfl, ownB_nil _ _, ⟨_, (hp3.other ⟨w.heap.size, 0, none⟩ (.int .i64 4) n2).other ⟨w.heap.size, 1, none⟩ (.int .i64 (fltAt 4 at_)) n2, h.bs eF hvw, hat, HKK.out⟩, eF⟩
  · rw [if_neg hs, Nat.add_zero] at hTR
    have HT := Lib.hid hTR
    have hs' : (m : Int) ≤ (l.length : Int) - (at_ : Int) := by omega
    have hd : decide ((l.length : Int) - (at_ : Int) < (m : Int)) = false := by simp; omega
    obtain ⟨a', c', hrun, hbs⟩ := slc_span hv at_ (at_ + m) (by omega) (by omega)
    rw [show at_ + m - at_ = m by omega] at hrun hbs
    push_cast at hrun
    have HBS := Lib.hid hbs
    have hlen : ((l.drop at_).take m).length = m := by rw [List.length_take, List.length_drop]; omega
    have kj := fun (w : World) (vb : Value) (hb : Bs w vb []) (va : Value) (ha : Bs w va ((l.drop at_).take m)) => join_any ((l.drop at_).take m) [] va vb w ha hb (by rw [hlen]; simp; omega)
    have KJ := Lib.hid kj
    have HL := Lib.hid hlen
    clear hbs hTR kj hneg hs hlen
    go_enter Tryz.func120, Tryz.ntmps120
    go_wp2
    go_quiet (fail)
    rename Nat => nq1
    go_wp2
    have hsum : IntKind.i64.wrap ((at_ : Int) + (m : Int)) = (at_ : Int) + (m : Int) := IntWalk.i64_in _ (by omega)
    have hge : (0 : Int) ≤ (at_ : Int) + (m : Int) := by omega
    refine wp_region_tail 15 (by kernel_rfl) (by kernel_rfl) ?_
    simp only [List.take_succ_cons, List.take_zero, List.drop_succ_cons, List.drop_zero]
    repeat still_step
    refine wpStill_nil ?_
    clear hrun hsum
    go_wp2_with fail
    refine (KJ.out _ _ (Sl.nil _ 1) _ (HBS.out _ (hv.ext (below_ext (Drew.grew ⟨nq1 + 1, by simp⟩))))).mono ?_
    rintro e3 w3 ⟨v3, rfl, ho, g3⟩
    have g03 : Grew (w.alloc (.cells #[.int .i64 0, .int .i64 0] 32)) w3 := Grew.trans (Drew.grew ⟨nq1 + 1, rfl⟩) g3
    have hb3' := hb0.grew g03
    have hp3 := hp0.grew g03
    obtain ⟨x0, x1, x2, x3⟩ := cells_of hb3'
    obtain ⟨y0, y1, y2, y3⟩ := cells_of hp3
    clear h0 hb0 hv hp0 d0 d1
    go_wp2
    have hf3 : Fr (· = p) w w3 := Fr.of_grew (Grew.trans (grew_alloc _ _) g03)
    have eB := ((hb3'.other ⟨p, 1, none⟩ (.int .i64 (at_ + m)) n1).set 0 (.int .i64 0)).set 1 (.int .i64 0)
    refine bodyPost_ret (results_tc rfl _ _ ⟨w.heap.size, 0, none⟩ _ _ rfl rfl (loadVar_fault _ _ _ rfl eB)) rfl ?_
    rw [← HT.out]
    have eF := ((hf3.set _ 1 (.int .i64 (at_ + m)) (fun _ => rfl)).set w.heap.size 0 (.int .i64 0) (fun h => absurd h (by omega))).set w.heap.size 1 (.int .i64 0) (fun h => absurd h (by omega))
    have ep := (((hp3.set 1 (.int .i64 (at_ + m))).other ⟨w.heap.size, 0, none⟩ (.int .i64 0) n2).other ⟨w.heap.size, 1, none⟩ (.int .i64 0) n2)
    refine ⟨_, rfl, ?_, ⟨_, ?_, h.bs eF hvw, by simp; omega, HKK.out⟩, eF⟩
    · have hb : w.heap.size + 1 ≤ ((w.alloc (.cells #[.int .i64 0, .int .i64 0] 32)).drewN (nq1 + 1)).heap.size := by simp
      rw [List.append_nil] at ho
      have hge := fun g e => (own_lt ho g e).1
      have e1 : v3.ownBlock ≠ some w.heap.size := fun e => by have := hge _ e; omega
      have e2 : v3.ownBlock ≠ some p := fun e => by have := hge _ e; omega
      exact own_set (own_set (own_set (own_mono ho (by omega)) _ _ e2) _ _ e1) _ _ e1
    · push_cast
      exact ep
end Go.Proofs.YtbjoohafgkodcaaGreat
namespace Go.Proofs.YtbjoohafgkodcaaGreat
open Go Go.RowKit Go.Shelf
attribute [local go_sem] Oper.semAt_some
variable {K : Value → Prop}

set_option maxRecDepth 10000 in
set_option maxHeartbeats 4000000 in
theorem rbytes_any (l : List UInt8) (p at_ : Nat) (n : Int) (hn0 : -9223372036854775808 ≤ n) (hn : n ≤ 9223372036854775807) (hl : l.length ≤ 1000000000) (w : World) (h : InR K w p l at_) : Calls Tryz.prog 96 #[.pointer (some ⟨p, 0, none⟩), .int .i64 n] w fun e w' => ∃ v, e = .returned (.tuple #[v, outF (bytesR l at_ n).2.1 at_]) ∧ OwnB w' w.heap.size v (bytesR l at_ n).1 ∧ InR K w' p l (bytesR l at_ n).2.2 ∧ Fr (· = p) w w' := by
  have hbd := vget_bd (l.drop at_)
  rw [List.length_drop] at hbd
  have hp := h.lt
  obtain ⟨v, hpw, hvw, hat, hkk⟩ := id h
  have HKK := Lib.hid hkk
  clear hkk
  obtain ⟨a, c, rfl, l1, l2, -⟩ := hvw.open
  unfold maxLen at l2
  have h0 := h.grew (grew_alloc w (.cells #[.int .i64 0, .int .i64 0] 32))
  have hp0 := hpw.grew (grew_alloc w (.cells #[.int .i64 0, .int .i64 0] 32))
  have hv := hvw.grew (grew_alloc w (.cells #[.int .i64 0, .int .i64 0] 32))
  have hb0 := Blk.new w 32 #[.int .i64 0, .int .i64 0]
  have K := fun v w hb => rget_any (l.drop at_) v w hb
  obtain ⟨R, hTR⟩ : ∃ R, bytesR l at_ n = R := ⟨_, rfl⟩
  rw [hTR]
  unfold bytesR at hTR
  obtain ⟨⟨num, k, e⟩, hR⟩ : ∃ R, vget (l.drop at_) = R := ⟨_, rfl⟩
  simp only [hR] at hbd K hTR
  obtain ⟨hb1, hb2, hb3, hb4, hb5⟩ := hbd
  have KG := Lib.hid K
  clear hR K hb5 hb4
  obtain ⟨d0, d1, -, -⟩ := cells_of hp0
  obtain ⟨a', c', hrun, hbs⟩ := slc_from hv at_ hat
  have HBS := Lib.hid hbs
  have n1 : w.heap.size ≠ p := by omega
  have n2 : p ≠ w.heap.size := by omega
  clear hbs
  by_cases he : e = 0
  case neg =>
    rw [if_pos he] at hTR
    have HT := Lib.hid hTR
    have hne : ((e : Int) != 0) = true := by simp; omega
    clear hTR he
    go_enter Tryz.func96, Tryz.ntmps96
    go_wp2
    go_quiet ((go_at_call 116; exact quiet_eq (KG.out _ _ (HBS.out _ (hv.drew _)))))
    clear d0 d1 hrun
    go_wp2_with fail
    refine (fault_any l p at_ e _ (h0.grew (Drew.grew ⟨nq, rfl⟩))).mono ?_
    rintro e3 w3 ⟨rfl, g3⟩
    have g03 := Grew.trans (Drew.grew ⟨nq, rfl⟩) g3
    have hb3' := hb0.grew g03
    have hp3 := hp0.grew g03
    obtain ⟨x0, x1, x2, x3⟩ := cells_of hb3'
    clear h0 hb0 hv hp0
    go_wp2
    have hf3 : Fr (· = p) w w3 := Fr.of_grew (Grew.trans (grew_alloc _ _) g03)
    refine bodyPost_ret (results_tc rfl _ _ ⟨w.heap.size, 0, none⟩ _ _ rfl rfl (loadVar_fault _ _ _ rfl ((hb3'.set 0 _).set 1 _))) rfl ?_
    rw [← HT.out]
    have eF := (hf3.set w.heap.size 0 (.int .i64 e) (fun h => absurd h (by omega))).set w.heap.size 1 (.int .i64 (fltAt e at_)) (fun h => absurd h (by omega))
    exact ⟨_, rfl, ownB_nil _ _, ⟨_, (hp3.other ⟨w.heap.size, 0, none⟩ (.int .i64 e) n2).other ⟨w.heap.size, 1, none⟩ (.int .i64 (fltAt e at_)) n2, h.bs eF hvw, hat, HKK.out⟩, eF⟩
  subst he
  rw [if_neg (by simp)] at hTR
  by_cases hm : n < 0 ∨ n < (num : Int)
  · rw [if_pos hm] at hTR
    have HT := Lib.hid hTR
    clear hTR
    have hmm : n < 0 ∨ (0 ≤ n ∧ n < (num : Int)) := by omega
    clear hm
    rcases hmm with hm | ⟨hm0, hm⟩
    all_goals
      go_enter Tryz.func96, Tryz.ntmps96
      go_wp2
      go_quiet ((go_at_call 116; exact quiet_eq (KG.out _ _ (HBS.out _ (hv.drew _)))))
      clear d0 d1 hrun
      go_wp2_with fail
      refine (fault_any l p at_ 2 _ (h0.grew (Drew.grew ⟨nq, rfl⟩))).mono ?_
      rintro e3 w3 ⟨rfl, g3⟩
      have g03 := Grew.trans (Drew.grew ⟨nq, rfl⟩) g3
      have hb3' := hb0.grew g03
      have hp3 := hp0.grew g03
      obtain ⟨x0, x1, x2, x3⟩ := cells_of hb3'
      clear h0 hb0 hv hp0
      go_wp2
      have hf3 : Fr (· = p) w w3 := Fr.of_grew (Grew.trans (grew_alloc _ _) g03)
      refine bodyPost_ret (results_tc rfl _ _ ⟨w.heap.size, 0, none⟩ _ _ rfl rfl (loadVar_fault _ _ _ rfl ((hb3'.set 0 _).set 1 _))) rfl ?_
      rw [← HT.out]
      have eF := (hf3.set w.heap.size 0 (.int .i64 2) (fun h => absurd h (by omega))).set w.heap.size 1 (.int .i64 (fltAt 2 at_)) (fun h => absurd h (by omega))
      exact ⟨_, rfl, ownB_nil _ _, ⟨_, (hp3.other ⟨w.heap.size, 0, none⟩ (.int .i64 2) n2).other ⟨w.heap.size, 1, none⟩ (.int .i64 (fltAt 2 at_)) n2, h.bs eF hvw, hat, HKK.out⟩, eF⟩
  rw [if_neg hm] at hTR
  have hm0 : 0 ≤ n := by omega
  have hm1 : (num : Int) ≤ n := by omega
  clear hm
  unfold cutR at hTR
  by_cases hs : l.length - at_ < k + num
  · rw [if_pos hs] at hTR
    have HT := Lib.hid hTR
    have hs' : (l.length : Int) - (at_ : Int) - (k : Int) < (num : Int) := by omega
    have hk0 : 0 ≤ (l.length : Int) - (at_ : Int) - (k : Int) := by omega
    clear hTR hs
    go_enter Tryz.func96, Tryz.ntmps96
    go_wp2
    go_quiet ((go_at_call 116; exact quiet_eq (KG.out _ _ (HBS.out _ (hv.drew _)))))
    rename Nat => nq1
    go_wp2
    go_quiet (fail)
    clear d0 d1 hrun
    go_wp2_with fail
    refine (fault_any l p at_ 4 _ (h0.grew (Drew.grew ⟨nq1 + nq, rfl⟩))).mono ?_
    rintro e3 w3 ⟨rfl, g3⟩
    have g03 := Grew.trans (Drew.grew ⟨nq1 + nq, rfl⟩) g3
    have hb3' := hb0.grew g03
    have hp3 := hp0.grew g03
    obtain ⟨x0, x1, x2, x3⟩ := cells_of hb3'
    clear h0 hb0 hv hp0
    go_wp2
    have hf3 : Fr (· = p) w w3 := Fr.of_grew (Grew.trans (grew_alloc _ _) g03)
    refine bodyPost_ret (results_tc rfl _ _ ⟨w.heap.size, 0, none⟩ _ _ rfl rfl (loadVar_fault _ _ _ rfl ((hb3'.set 0 _).set 1 _))) rfl ?_
    rw [← HT.out]
    have eF := (hf3.set w.heap.size 0 (.int .i64 4) (fun h => absurd h (by omega))).set w.heap.size 1 (.int .i64 (fltAt 4 at_)) (fun h => absurd h (by omega))
    exact ⟨_, rfl, ownB_nil _ _, ⟨_, (hp3.other ⟨w.heap.size, 0, none⟩ (.int .i64 4) n2).other ⟨w.heap.size, 1, none⟩ (.int .i64 (fltAt 4 at_)) n2, h.bs eF hvw, hat, HKK.out⟩, eF⟩
  · rw [if_neg hs] at hTR
    have hs' : (num : Int) ≤ (l.length : Int) - (at_ : Int) - (k : Int) := by omega
    have hd : decide ((l.length : Int) - (at_ : Int) - (k : Int) < (num : Int)) = false := by simp; omega
    have hk0 : 0 ≤ (l.length : Int) - (at_ : Int) - (k : Int) := by omega
    have kt := fun w (h : InR K w p l (at_ + k)) => rtake_any l p (at_ + k) num (by omega) (by omega) hl w h
    have ht : takeR l (at_ + k) num = ((l.drop (at_ + k)).take num, 0, at_ + (k + num)) := by
      unfold takeR cutR
      rw [if_neg (by omega), Int.toNat_natCast, if_neg (by omega)]
      simp; omega
    rw [ht] at kt
    have HT := Lib.hid hTR
    have KT := Lib.hid kt
    clear hTR ht kt
    go_enter Tryz.func96, Tryz.ntmps96
    go_wp2
    go_quiet ((go_at_call 116; exact quiet_eq (KG.out _ _ (HBS.out _ (hv.drew _)))))
    rename Nat => nq1
    go_wp2
    go_quiet (fail)
    clear d0 d1 hrun
    have hb3' := hb0.drewN (nq1 + nq)
    have hp3 := hp0.drewN (nq1 + nq)
    obtain ⟨x0, x1, x2, x3⟩ := cells_of hp3
    have eF1 := (Fr.of_grew (S := fun x => x = p) (Grew.trans (grew_alloc w (.cells #[.int .i64 0, .int .i64 0] 32)) (Drew.grew ⟨nq1 + nq, rfl⟩))).set _ 1 (.int .i64 (at_ + k)) (fun _ => rfl)
    have hI1 : InR K (((w.alloc (.cells #[.int .i64 0, .int .i64 0] 32)).drewN (nq1 + nq)).setCell ⟨p, 1, none⟩ (.int .i64 (at_ + k))) p l (at_ + k) :=
      ⟨_, by push_cast; exact hp3.set 1 _, h.bs eF1 hvw, by omega, HKK.out⟩
    go_wp2_with fail
    refine (KT.out _ hI1).mono ?_
    rintro e5 w5 ⟨v5, rfl, ho, hi5, hf5⟩
    rw [show outF 0 (at_ + k) = faultV 0 0 from rfl]
    have hb5 := (hb3'.other ⟨p, 1, none⟩ (.int .i64 (at_ + k)) n1).fr hf5 n1
    clear x0 x1 x2 x3 h0 hb0 hv hp0 hp3 hI1
    obtain ⟨x0, x1, x2, x3⟩ := cells_of hb5
    have n3 : w.heap.size < w5.heap.size := hb5.lt
    go_wp2
    have hF := Fr.trans eF1 hf5
    have eB := ((hb5.set 0 (.int .i64 0)).set 1 (.int .i64 0)).alloc (.cells #[.int .i64 0, .int .i64 0] 32)
    refine bodyPost_ret (results_tc rfl _ _ ⟨w.heap.size, 0, none⟩ _ _ rfl rfl (loadVar_fault _ _ _ rfl eB)) rfl ?_
    rw [← HT.out]
    have eF := ((hF.set w.heap.size 0 (.int .i64 0) (fun h => absurd h (by omega))).set w.heap.size 1 (.int .i64 0) (fun h => absurd h (by omega))).alloc (.cells #[.int .i64 0, .int .i64 0] 32)
    refine ⟨_, rfl, ?_, (hi5.cell hb5 (noByte_fault _ _) n2 (fr_set2 _ _ _ _)).grew (grew_alloc _ _), eF⟩
    have hb : w.heap.size + 1 ≤ (((w.alloc (.cells #[.int .i64 0, .int .i64 0] 32)).drewN (nq1 + nq)).setCell ⟨p, 1, none⟩ (.int .i64 (at_ + k))).heap.size := by simp
    have hge := fun g e => (own_lt ho g e).1
    have e1 : v5.ownBlock ≠ some w.heap.size := fun e => by have := hge _ e; omega
    exact own_grew (own_set (own_set (own_mono ho (by omega)) _ _ e1) _ _ e1) (grew_alloc _ _)
end Go.Proofs.YtbjoohafgkodcaaGreat
