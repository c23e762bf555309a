/- The reference of layer 8: Of, Find, Specs: contracts. ; The reference of layer 8: Rows, Of, Find, Specs: contracts. -/
import Derived.Test.YtgoaijpckckdnaaSchF
import Derived.Deep.RegionHeld3
namespace Go.Proofs.Ytgoaijpckckdnaa
open Go Go.RowKit Go.Shelf

def rrowV (r : Row) : List Value := [.int .i64 r.2.1, .int .i64 r.2.2.1, .int .i64 r.2.2.2.1, .int .i64 r.2.2.2.2]
def rrowsV (l : List Row) : List Value := l.flatMap rrowV
abbrev Rs (w : World) (v : Value) (l : List Row) : Prop := Sl w v l.length 4 (rrowsV l)
theorem rs_lit (w : World) (l : List Row) (cs : Array Value) (n : Nat) (hn : l.length = n) (hc : cs = (rrowsV l).toArray) (hs : cs.size = n * 4) (hm : n ≤ 1000) : Rs (w.alloc (.cells cs 154)) (.slice (some ⟨w.heap.size, 0, none⟩) n n) l := by
  subst hn
  have := Sl.lit w 154 (0, 0) cs l.length 4 hs (by unfold maxLen; omega)
  rw [hc] at this ⊢
  exact this

set_option maxRecDepth 10000 in
set_option maxHeartbeats 4000000 in
theorem rrows_any (k : Nat) (w : World) : Calls Try.prog 126 #[.int .u8 k] w fun e w' => ∃ v, e = .returned v ∧ Rs w' v (ofKind k rowsAll) ∧ Grew w w' := by
  by_cases h1 : k = 1
  · subst h1
    go_enter Try.func126, Try.ntmps126
    go_wp2
    go_ret
    exact ⟨_, rfl, rs_lit w (ofKind 1 rowsAll) _ 3 (by kernel_rfl) (by kernel_rfl) (by kernel_rfl) (by omega), grew_alloc _ _⟩
  by_cases h2 : k = 2
  · subst h2
    go_enter Try.func126, Try.ntmps126
    go_wp2
    go_ret
    exact ⟨_, rfl, rs_lit w (ofKind 2 rowsAll) _ 3 (by kernel_rfl) (by kernel_rfl) (by kernel_rfl) (by omega), grew_alloc _ _⟩
  by_cases h3 : k = 3
  · subst h3
    go_enter Try.func126, Try.ntmps126
    go_wp2
    go_ret
    exact ⟨_, rfl, rs_lit w (ofKind 3 rowsAll) _ 3 (by kernel_rfl) (by kernel_rfl) (by kernel_rfl) (by omega), grew_alloc _ _⟩
  by_cases h4 : k = 4
  · subst h4
    go_enter Try.func126, Try.ntmps126
    go_wp2
    go_ret
    exact ⟨_, rfl, rs_lit w (ofKind 4 rowsAll) _ 4 (by kernel_rfl) (by kernel_rfl) (by kernel_rfl) (by omega), grew_alloc _ _⟩
  by_cases h5 : k = 5
  · subst h5
    go_enter Try.func126, Try.ntmps126
    go_wp2
    go_ret
    exact ⟨_, rfl, rs_lit w (ofKind 5 rowsAll) _ 7 (by kernel_rfl) (by kernel_rfl) (by kernel_rfl) (by omega), grew_alloc _ _⟩
  by_cases h6 : k = 6
  · subst h6
    go_enter Try.func126, Try.ntmps126
    go_wp2
    go_ret
    exact ⟨_, rfl, rs_lit w (ofKind 6 rowsAll) _ 7 (by kernel_rfl) (by kernel_rfl) (by kernel_rfl) (by omega), grew_alloc _ _⟩
  by_cases h7 : k = 7
  · subst h7
    go_enter Try.func126, Try.ntmps126
    go_wp2
    go_ret
    exact ⟨_, rfl, rs_lit w (ofKind 7 rowsAll) _ 2 (by kernel_rfl) (by kernel_rfl) (by kernel_rfl) (by omega), grew_alloc _ _⟩
  by_cases h8 : k = 8
  · subst h8
    go_enter Try.func126, Try.ntmps126
    go_wp2
    go_ret
    exact ⟨_, rfl, rs_lit w (ofKind 8 rowsAll) _ 1 (by kernel_rfl) (by kernel_rfl) (by kernel_rfl) (by omega), grew_alloc _ _⟩
  by_cases h9 : k = 9
  · subst h9
    go_enter Try.func126, Try.ntmps126
    go_wp2
    go_ret
    exact ⟨_, rfl, rs_lit w (ofKind 9 rowsAll) _ 6 (by kernel_rfl) (by kernel_rfl) (by kernel_rfl) (by omega), grew_alloc _ _⟩
  by_cases h10 : k = 10
  · subst h10
    go_enter Try.func126, Try.ntmps126
    go_wp2
    go_ret
    exact ⟨_, rfl, rs_lit w (ofKind 10 rowsAll) _ 4 (by kernel_rfl) (by kernel_rfl) (by kernel_rfl) (by omega), grew_alloc _ _⟩
  have hr : ofKind k rowsAll = [] := by
    unfold ofKind
    rw [List.filter_eq_nil_iff]
    intro r hr
    have : r.1 = 1 ∨ r.1 = 2 ∨ r.1 = 3 ∨ r.1 = 4 ∨ r.1 = 5 ∨ r.1 = 6 ∨ r.1 = 7 ∨ r.1 = 8 ∨ r.1 = 9 ∨ r.1 = 10 := by
      revert r; decide
    simp; omega
  have e1 : ((k : Int) == 1) = false := by simp; omega
  have e2 : ((k : Int) == 2) = false := by simp; omega
  have e3 : ((k : Int) == 3) = false := by simp; omega
  have e4 : ((k : Int) == 4) = false := by simp; omega
  have e5 : ((k : Int) == 5) = false := by simp; omega
  have e6 : ((k : Int) == 6) = false := by simp; omega
  have e7 : ((k : Int) == 7) = false := by simp; omega
  have e8 : ((k : Int) == 8) = false := by simp; omega
  have e9 : ((k : Int) == 9) = false := by simp; omega
  have e10 : ((k : Int) == 10) = false := by simp; omega
  rw [hr]
  clear hr h1 h2 h3 h4 h5 h6 h7 h8 h9 h10
  go_enter Try.func126, Try.ntmps126
  go_wp2
  go_ret
  exact ⟨_, rfl, Sl.nil _ _, Below.refl _ _⟩
end Go.Proofs.Ytgoaijpckckdnaa
namespace Go.Proofs.Ytgoaijpckckdnaa
open Go Go.RowKit Go.Shelf

/-- a cell of a list of equally long rows -/
theorem flat_get {α : Type} {f : α → List Value} {k : Nat} (hf : ∀ x, (f x).length = k) : ∀ (l : List α) (j : Nat) (hj : j < l.length) (i : Nat), i < k → (l.flatMap f)[j * k + i]? = (f l[j])[i]?
  | [], _, h, _, _ => absurd h (by simp)
  | x :: l, 0, _, i, hi => by
    simp only [List.flatMap_cons, Nat.zero_mul, Nat.zero_add, List.getElem_cons_zero]
    rw [List.getElem?_append_left (by rw [hf]; exact hi)]
  | x :: l, j + 1, h, i, hi => by
    have := flat_get hf l j (by simpa using h) i hi
    simp only [List.flatMap_cons, List.getElem_cons_succ]
    rw [List.getElem?_append_right (by rw [hf, Nat.succ_mul]; omega), hf, show (j + 1) * k + i - k = j * k + i by rw [Nat.succ_mul]; omega]
    exact this
theorem of_comm (k : Nat) (ver : Int) : ofKind k (rowsIn ver) = if ver < 1 ∨ 3 < ver then [] else (ofKind k rowsAll).filter (inV ver) := by
  unfold ofKind rowsIn
  split
  · rfl
  · rw [List.filter_filter, List.filter_filter]; congr 1; funext r; exact Bool.and_comm _ _
theorem ofKind_len (k : Nat) : (ofKind k rowsAll).length ≤ 40 := List.length_filter_le _ _

/-- append of field rows as one step of a region that draws -/
theorem step_pushS {ops : Array Oper} {o : Oper} {a : Act} {W : World} {K : Act → World → Prop} {Q : Exit → Act → World → Prop} {E : Prop} (hgd : o.guard = none) (s x : Operand)
    (ho : o.op = .call { callee := .builtin .append, args := #[s, x], argTypes := #[88, 88] })
    (base : Nat) (v : Value) (l : List Row) (hs : a.eval s = v) (hown : OwnS W base v l) (xv : Value) (hx : a.eval x = xv) (m : List Row) (hsl : Ss W xv m)
    (hlen : l.length + m.length ≤ 1000000) (hbase : base ≤ W.heap.size)
    (h : ∀ v' w', OwnS w' base v' (l ++ m) → Below base W w' → W.grownBy w' v.ownBlock → K (a.put o.dst v') w') :
    if Region.wanted o (yielded ops a.tmps) = true then Oper.wp Try.prog o a W K Q else E := by
  have hw : Region.wanted o (yielded ops a.tmps) = true := by simp [Region.wanted, hgd]
  rw [if_pos hw]
  obtain ⟨i0, hi, hz0, hz1, hz2⟩ := info_parts info_spec
  rcases hsl.shape with ⟨rfl, h0, h1⟩ | ⟨ad, cap, rfl, _, _, hl, hc⟩
  · have hrun := run_append_owned_none (P := Try.prog) (w := W) base 88 o.type 63 i0 3 Try.underlying88 hi v _ _ hown
    obtain rfl : m = [] := List.eq_nil_of_length_eq_zero h0
    unfold Oper.wp
    simp [execOp, ho, resolve, invoke, builtin, hs, hx, hrun, Result.andThen]
    exact h v W (by simpa using hown) (Below.refl _ _) (World.grownBy.refl _ _)
  · obtain ⟨v', w', hrun, r1, r2, _⟩ := run_append_own (P := Try.prog) W base 88 o.type 63 i0 _ 3 24 Try.underlying88 hi hz0 hz1 hz2 rfl (by decide) v _ _ hown ad _ cap (specsV m) hl hc (specsV_one m) (by unfold maxLen; omega) (by omega) hbase
    unfold Oper.wp
    simp [execOp, ho, resolve, invoke, builtin, hs, hx, hrun, Result.andThen]
    exact h v' w' (by rw [OwnS, specsV_append, List.length_append]; exact r1) (grownBy_below r2 hown hbase) r2

set_option maxRecDepth 10000 in
set_option maxHeartbeats 2000000 in
theorem rof_any (kind : Nat) (ver : Int) (w : World) : Calls Try.prog 78 #[.int .u8 kind, .int .i64 ver] w fun e w' => ∃ v, e = .returned v ∧ OwnS w' w.heap.size v (ofKind kind (rowsIn ver)) ∧ Grew w w' := by
  rw [of_comm]
  by_cases hv : ver < 1 ∨ 3 < ver
  · rw [if_pos hv]
    by_cases h1 : ver < 1
    · clear hv
      go_enter Try.func78, Try.ntmps78
      go_wp2
      go_ret
      exact ⟨_, rfl, World.ownsRow_nil _ _ _ _, Below.refl _ _⟩
    · have h2 : 3 < ver := by omega
      clear hv
      go_enter Try.func78, Try.ntmps78
      go_wp2
      go_ret
      exact ⟨_, rfl, World.ownsRow_nil _ _ _ _, Below.refl _ _⟩
  rw [if_neg hv]
  have hv1 : ¬ ver < 1 := by omega
  have hv2 : ¬ 3 < ver := by omega
  have hlen := ofKind_len kind
  obtain ⟨L, hL⟩ : ∃ L, ofKind kind rowsAll = L := ⟨_, rfl⟩
  have hc := rrows_any kind
  rw [hL] at hlen ⊢
  simp only [hL] at hc
  have HC := Lib.hid hc
  clear hL hc hv
  go_enter Try.func78, Try.ntmps78
  go_wp2_with fail
  refine (HC.out _).mono ?_
  rintro e w1 ⟨v, rfl, hs, hg⟩
  obtain ⟨a, c, rfl, h1, h2, h3, h4⟩ := hs.open
  clear h3
  go_wp2_with fail
  go_loopw [5, 7] (fun v i wr => ∃ j : Nat, j ≤ L.length ∧ i = .int .i64 j ∧ OwnS wr w1.heap.size v ((L.take j).filter (inV ver)) ∧ Grew w1 wr) (fun _ i _ => L.length - (intOf i).toNat)
  case atStart => exact ⟨0, Nat.zero_le _, rfl, World.ownsRow_nil _ _ _ _, Below.refl _ _⟩
  case round =>
    obtain ⟨j, hj, rfl, hown, hB⟩ := hrel
    by_cases hlt : j < L.length
    · obtain ⟨b, off, rfl, hcell⟩ := h4 (by omega)
      obtain ⟨kd, nm, ty, sl, si, hrow⟩ : ∃ kd nm ty sl si, L[j] = (kd, nm, ty, sl, si) := ⟨_, _, _, _, _, rfl⟩
      have hget : ∀ i, i < 4 → (rrowsV L)[j * 4 + i]? = (rrowV (kd, nm, ty, sl, si))[i]? := fun i hi => by rw [← hrow]; exact flat_get (k := 4) (fun _ => rfl) L j hlt i hi
      have b0 := hcell _ _ (hget 0 (by omega))
      have b1 := hcell _ _ (hget 1 (by omega))
      have b2 := hcell _ _ (hget 2 (by omega))
      have c0 := (below_ext hB) _ _ (hcell _ _ (hget 0 (by omega)))
      have c1 := (below_ext hB) _ _ (hcell _ _ (hget 1 (by omega)))
      have c2 := (below_ext hB) _ _ (hcell _ _ (hget 2 (by omega)))
      have c3 := (below_ext hB) _ _ (hcell _ _ (hget 3 (by omega)))
      simp only [Nat.add_zero, ← Nat.add_assoc] at b0 b1 b2 c0 c1 c2 c3
      have hfl : ((L.take j).filter (inV ver)).length ≤ j := by
        have := List.length_filter_le (inV ver) (L.take j); simp at this; omega
      clear hget h4 hcell HC
      by_cases hin : (si : Int) ≤ ver
      · have hsn := filter_snoc_yes (inV ver) L j hlt (by rw [hrow]; simpa [inV] using hin)
        rw [hrow] at hsn
        have HS := Lib.hid hsn
        clear hsn hrow
        have hbase : w1.heap.size ≤ wr.heap.size := hB.size
        go_wp2
        go_region_held3 (fun W => W.cell? ⟨b, off + j * 4, none⟩ = some (.int .i64 nm) ∧ W.cell? ⟨b, off + j * 4 + 1, none⟩ = some (.int .i64 ty) ∧ W.cell? ⟨b, off + j * 4 + 2, none⟩ = some (.int .i64 sl)) (first | go_keep | exact ⟨hk0, hk1, hk2⟩) ((first | (refine step_pushS rfl (.tmp 29) (.tmp 46) rfl w1.heap.size u5 _ (by simp [Act.eval]) (own_grew hown (Grew.trans (Drew.grew ⟨1, rfl⟩) (grew_alloc _ _))) (.slice (some ⟨wr.heap.size, 0, none⟩) 1 1) (by simp [Act.eval]) [(kd, nm, ty, sl, si)] (ss_one wr.drew (kd, nm, ty, sl, si)) (by simp; omega) (by simp; omega) ?_; intro v' w2 hown2 hB2 hgb; have hG : Grew w1 w2 := ((hB.trans (Drew.grew ⟨1, rfl⟩)).alloc (by simp; omega) _).trans hB2; have hk0 := (below_ext hG) _ _ b0; have hk1 := (below_ext hG) _ _ b1; have hk2 := (below_ext hG) _ _ b2)))
        clear hk0 hk1 hk2
        go_wp2
        go_roundw
        case rel => exact ⟨j + 1, by omega, by go_num, by rw [HS.out]; exact hown2, hG⟩
        case measure => simp [intOf]; omega
      · have hsn := filter_snoc_no (inV ver) L j hlt (by rw [hrow]; simpa [inV] using hin)
        have HS := Lib.hid hsn
        clear hsn hrow
        go_wp2
        go_roundw
        case rel => exact ⟨j + 1, by omega, by go_num, by rw [HS.out]; exact hown, hB⟩
        case measure => simp [intOf]; omega
    · obtain rfl : j = L.length := by omega
      rw [List.take_length] at hown
      clear h4
      go_wp2
      go_ret
      exact ⟨_, rfl, own_mono hown hg.size, Grew.trans hg hB⟩
end Go.Proofs.Ytgoaijpckckdnaa
