/- skip.which, Of, Without: contracts. -/
import Derived.Test.YtgoaijpckckdnaaFld
namespace Go.Proofs.Ytgoaijpckckdnaa
open Go Go.RowKit Go.Shelf
attribute [local go_sem] Oper.semAt_some

/-- a row of the call's own of fields, whose bytes lie anywhere -/
abbrev OwnF (W : World) (base : Nat) (v : Value) (ps : List FFV) : Prop := W.ownsRow base 39 5 v ps.length (ps.flatMap ffv)
theorem wpList_pushFo {W : World} {ops : Array Oper} {rest : List Oper} {o : Oper} {a : Act} {Q : Exit → Act → World → Prop} (hgd : o.guard = none) (s x : Operand)
    (ho : o.op = .call { callee := .builtin .append, args := #[s, x], argTypes := #[24, 24] })
    (base : Nat) (v : Value) (ps : List FFV) (hs : a.eval s = v) (hown : OwnF W base v ps) (xv : Value) (hx : a.eval x = xv) (p : FFV) (hsl : Sl W xv 1 5 (ffv p)) {l : List UInt8} (hp : Bs W p.2 l)
    (hlen : ps.length + 1 ≤ 1000000000) (hbase : base ≤ W.heap.size)
    (h : ∀ v' w', OwnF w' base v' (ps ++ [p]) → Below base W w' → W.grownBy w' v.ownBlock → wpList Try.prog ops Q rest (a.put o.dst v') w') : wpList Try.prog ops Q (o :: rest) a W := by
  obtain ⟨i0, hi, hz0, hz1, hz2⟩ := info_parts info_field
  exact wpList_app hgd s x 24 ho base 39 i0 (.agg #[.int .i64 0, .int .u8 0, .int .u64 0, .slice none 0 0, .int .i64 0]) 5 56 Try.underlying24 hi hz0 hz1 hz2 rfl (by decide) v ps.length _ hs hown xv 1 (ffv p) hx hsl (ffv_one p hp) (by unfold maxLen; omega) (by omega) hbase
    fun v' w' h1 h2 => h v' w' (by rw [OwnF, List.length_append, List.flatMap_append]; simpa using h1) (grownBy_below h2 hown hbase) h2

set_option maxRecDepth 100000 in
set_option maxHeartbeats 4000000 in
theorem which_any (A : List FFV) (v : Value) (w : World) (h : FlR w v A) (hA : A.length ≤ 100000000) (is : Fld → Bool) (g : Nat) (lb : Array Value) (heg : ∀ args w, (callFunc g args).run Try.prog w = .ok (.enter g args) w)
    (hcall : ∀ W x xv, Grew w W → Bs W xv (fB x) → Calls Try.prog g (#[fldA x xv] ++ lb) W fun e w' => e = .returned (.bool (is x)) ∧ Grew W w') :
    Calls Try.prog 73 #[v, .func (.func g) #[] lb] w fun e w' => ∃ v', e = .returned v' ∧ OwnF w' w.heap.size v' (A.filter fun p => is p.1) ∧ Grew w w' := by
  obtain ⟨a, c, rfl, h1, h2, -, h4⟩ := h.1.open
  unfold maxLen at h2
  have HC := Lib.hid h
  have H4 := Lib.hid h4
  have HCL := Lib.hid hcall
  clear h h4 hcall
  go_enter Try.func73, Try.ntmps73
  go_wp2
  go_loopw [5, 10] (fun vo i wr => ∃ k : Nat, k ≤ A.length ∧ i = .int .i64 k ∧ OwnF wr w.heap.size vo ((A.take k).filter fun p => is p.1) ∧ Grew w wr) (fun _ i _ => A.length - (intOf i).toNat)
  case atStart => exact ⟨0, Nat.zero_le _, rfl, World.ownsRow_nil _ _ _ _, Below.refl _ _⟩
  case round =>
    obtain ⟨k, hk, rfl, ho, hG⟩ := hrel
    obtain ⟨P, hP⟩ : ∃ P, P = (A.take k).filter fun p => is p.1 := ⟨_, rfl⟩
    rw [← hP] at ho
    have HP := Lib.hid hP
    have hPl : P.length ≤ k := by rw [hP]; refine Nat.le_trans (List.length_filter_le _ _) (by simp; omega)
    obtain ⟨a9, c9, rfl, -⟩ := (Sl.of_own ho).open
    have HO := Lib.hid ho
    clear ho hP
    by_cases hlt : k < A.length
    · obtain ⟨b, o, rfl, -⟩ := H4.out (by omega)
      obtain ⟨x0, x1, x2, x3, x4, x5⟩ := fl_cells (HC.out.grew hG) k hlt
      have hts : (A.take (k + 1)).filter (fun p => is p.1) = P ++ [A[k]].filter fun p => is p.1 := by rw [List.take_succ_eq_append_getElem hlt, List.filter_append, HP.out]
      obtain ⟨⟨X, xv⟩, hr⟩ : ∃ r, r = A[k] := ⟨_, rfl⟩
      rw [← hr] at x0 x1 x2 x3 x4 x5 hts
      simp only at x0 x1 x2 x3 x4 x5
      obtain ⟨xa, xn, xc, rfl, hxn⟩ := bs_shape x5
      have gb := grew_alloc wr (.cells #[.int .i64 X.1, .int .u8 (X.2.1 : Nat), .int .u64 (X.2.2.1 : Nat), .slice xa xn xc, .int .i64 X.2.2.2.2] 39)
      have KC := Lib.hid (HCL.out _ X _ (hG.trans gb) (x5.grew gb))
      have HX5 := Lib.hid x5
      have z1 : (k : Int) < (A.length : Int) := by omega
      have z0 : (0 : Int) ≤ (k : Int) := by omega
      have hwz := hG.size
      have HTS := Lib.hid hts
      have k6 := Blk.new wr 39 #[.int .i64 X.1, .int .u8 (X.2.1 : Nat), .int .u64 (X.2.2.1 : Nat), .slice xa xn xc, .int .i64 X.2.2.2.2]
      clear hr x5 hts
      go_wp2_with fail
      refine KC.out.mono ?_
      rintro e w2 ⟨rfl, g2⟩
      have G2 := (hG.trans gb).trans g2
      have k7 := k6.grew g2
      have hO2 := own_grew (own_grew HO.out gb) g2
      obtain ⟨p0, p1, p2, p3, p4, -⟩ := cells5 k7
      cases his : is X with
      | false =>
        have HIS := Lib.hid his
        clear x0 x1 x2 x3 x4 his
        go_wp2
        go_roundw
        case rel => exact ⟨k + 1, by omega, by go_num, by rw [HTS.out]; simpa [HIS.out] using hO2, G2⟩
        case measure => simp [intOf]; omega
      | true =>
        have HIS := Lib.hid his
        have hsl : Sl (w2.alloc (.cells #[.int .i64 X.1, .int .u8 (X.2.1 : Nat), .int .u64 (X.2.2.1 : Nat), .slice xa xn xc, .int .i64 X.2.2.2.2] 39)) (.slice (some ⟨w2.heap.size, 0, none⟩) 1 1) 1 5 (ffv (X, .slice xa xn xc)) := Sl.lit w2 39 (0, 0) #[.int .i64 X.1, .int .u8 (X.2.1 : Nat), .int .u64 (X.2.2.1 : Nat), .slice xa xn xc, .int .i64 X.2.2.2.2] 1 5 rfl (by unfold maxLen; omega)
        have g3 := grew_alloc w2 (.cells #[.int .i64 X.1, .int .u8 (X.2.1 : Nat), .int .u64 (X.2.2.1 : Nat), .slice xa xn xc, .int .i64 X.2.2.2.2] 39)
        have HSL := Lib.hid hsl
        have HO3 := Lib.hid (own_grew hO2 g3)
        have G3 := Lib.hid (G2.trans g3)
        have hb5 := ((HX5.out.grew gb).grew g2).grew g3
        clear x0 x1 x2 x3 x4 his hsl hO2 hxn
        go_wp2_with (at_builtin; refine wpList_pushFo rfl _ _ rfl w.heap.size _ P rfl HO3.out _ rfl (X, .slice xa xn xc) HSL.out hb5 (by omega) G3.out.size ?_; intro v' w3 hown3 hB3 hgb)
        refine ⟨⟨k + 1, by omega, by go_num, by rw [HTS.out]; simpa [HIS.out] using hown3, Below.trans G3.out hB3⟩, ?_⟩
        simp [intOf]; omega
    · obtain rfl : k = A.length := by omega
      have hPP := HP.out
      rw [List.take_length] at hPP
      have HPP := Lib.hid hPP
      clear hPP
      go_wp2
      go_ret
      exact ⟨_, rfl, by rw [← HPP.out]; exact HO.out, hG⟩
set_option maxRecDepth 100000 in
set_option maxHeartbeats 4000000 in
theorem skof_any (A : List FFV) (v : Value) (num : Int) (w : World) (h : FlR w v A) (hA : A.length ≤ 100000000) :
    Calls Try.prog 29 #[v, .int .i64 num] w fun e w' => ∃ v', e = .returned v' ∧ OwnF w' w.heap.size v' (A.filter fun p => p.1.1 == num) ∧ Grew w w' := by
  obtain ⟨a, c, rfl, -⟩ := h.1.open
  have ga := grew_alloc w (.cells #[.int .i64 num] 3)
  have k0 := Blk.new w 3 #[.int .i64 num]
  have KW := Lib.hid (which_any A _ _ (h.grew ga) hA (fun x => x.1 == num) 74 #[.pointer (some ⟨w.heap.size, 0, none⟩)] (enters_of Try.func74 (by kernel_rfl) rfl) (by
    intro W x xv hG hb
    obtain ⟨xa, xn, rfl⟩ := bs_len hb
    have gb := grew_alloc W (.cells #[.int .i64 x.1, .int .u8 (x.2.1 : Nat), .int .u64 (x.2.2.1 : Nat), .slice xa (fB x).length xn, .int .i64 x.2.2.2.2] 39)
    have c0 := ((k0.grew hG).grew gb).cell 0
    simp only [List.getElem?_toArray, List.getElem?_cons_zero] at c0
    clear hb
    go_enter Try.func74, Try.ntmps74
    go_wp2
    go_ret
    exact ⟨rfl, gb⟩))
  clear h
  go_enter Try.func29, Try.ntmps29
  go_wp2_with fail
  refine KW.out.mono ?_
  rintro e w2 ⟨v2, rfl, ho, g2⟩
  obtain ⟨a2, c2, rfl, -⟩ := (Sl.of_own ho).open
  have HO := Lib.hid ho
  clear ho
  go_wp2
  go_ret
  exact ⟨_, rfl, own_mono HO.out ga.size, ga.trans g2⟩
set_option maxRecDepth 100000 in
set_option maxHeartbeats 4000000 in
theorem skwo_any (A : List FFV) (v : Value) (num : Int) (w : World) (h : FlR w v A) (hA : A.length ≤ 100000000) :
    Calls Try.prog 30 #[v, .int .i64 num] w fun e w' => ∃ v', e = .returned v' ∧ OwnF w' w.heap.size v' (A.filter fun p => p.1.1 != num) ∧ Grew w w' := by
  obtain ⟨a, c, rfl, -⟩ := h.1.open
  have ga := grew_alloc w (.cells #[.int .i64 num] 3)
  have k0 := Blk.new w 3 #[.int .i64 num]
  have KW := Lib.hid (which_any A _ _ (h.grew ga) hA (fun x => x.1 != num) 75 #[.pointer (some ⟨w.heap.size, 0, none⟩)] (enters_of Try.func75 (by kernel_rfl) rfl) (by
    intro W x xv hG hb
    obtain ⟨xa, xn, rfl⟩ := bs_len hb
    have gb := grew_alloc W (.cells #[.int .i64 x.1, .int .u8 (x.2.1 : Nat), .int .u64 (x.2.2.1 : Nat), .slice xa (fB x).length xn, .int .i64 x.2.2.2.2] 39)
    have c0 := ((k0.grew hG).grew gb).cell 0
    simp only [List.getElem?_toArray, List.getElem?_cons_zero] at c0
    clear hb
    go_enter Try.func75, Try.ntmps75
    go_wp2
    go_ret
    exact ⟨rfl, gb⟩))
  clear h
  go_enter Try.func30, Try.ntmps30
  go_wp2_with fail
  refine KW.out.mono ?_
  rintro e w2 ⟨v2, rfl, ho, g2⟩
  obtain ⟨a2, c2, rfl, -⟩ := (Sl.of_own ho).open
  have HO := Lib.hid ho
  clear ho
  go_wp2
  go_ret
  exact ⟨_, rfl, own_mono HO.out ga.size, ga.trans g2⟩
end Go.Proofs.Ytgoaijpckckdnaa
