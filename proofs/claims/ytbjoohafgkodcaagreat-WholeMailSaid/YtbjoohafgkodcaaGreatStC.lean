/- Package stream: pieces, Cut: contracts. -/
import Derived.Test.YtbjoohafgkodcaaGreatStF
namespace Go.Proofs.YtbjoohafgkodcaaGreat
open Go Go.RowKit Go.Shelf
attribute [local go_sem] Oper.semAt_some

/-- a piece: its slice value, and its bytes -/
abbrev Pc := Value × List UInt8
/-- the iterator turns its own cell alone -/
def StW (Bn : Nat) (A B : World) : Prop := (∃ m, B = A.drewN m) ∨ ∃ v, B = A.setCell ⟨Bn, 0, none⟩ v
theorem bs_cap {w : World} {a : Option Addr} {n c : Nat} {l : List UInt8} (h : Bs w (.slice a n c) l) (hn : 0 < n) : Bs w (.slice a n n) l := by
  obtain ⟨hl, a', cap, e, h1, h2, h3, h4⟩ := h
  simp only [Value.slice.injEq] at e
  obtain ⟨rfl, rfl, rfl⟩ := e
  refine ⟨hl, a, l.length, rfl, Nat.le_refl _, by omega, fun e => ?_, h4⟩
  have := h3 e
  omega
def cellLen (w : World) (Bn : Nat) : Nat := match w.cell? ⟨Bn, 0, none⟩ with | some (.slice _ n _) => n | _ => 0
def iiv (s : List Int) : List Value := s.map (Value.int .i64)
theorem iiv_get (s : List Int) (j : Nat) (h : j < s.length) : (iiv s)[j]? = some (.int .i64 s[j]) := by simp [iiv, h]
theorem spieces_any (vb vs : Value) (w : World) (h1 : ∃ a n c, vb = .slice a n c) (h2 : ∃ a n c, vs = .slice a n c) : Calls Tryz.prog 42 #[vb, vs] w fun e w' => e = .returned (.func (.func 68) #[] #[.pointer (some ⟨w.heap.size, 0, none⟩), .pointer (some ⟨w.heap.size + 1, 0, none⟩)]) ∧ w' = (w.alloc (.cells #[vb] 22)).alloc (.cells #[vs] 51) := by
  obtain ⟨a, n, c, rfl⟩ := h1
  obtain ⟨a', n', c', rfl⟩ := h2
  go_enter Tryz.func42, Tryz.ntmps42
  go_wp2
  go_ret
  exact ⟨rfl, rfl⟩
set_option maxRecDepth 100000 in
set_option maxHeartbeats 4000000 in
theorem pieces_iter (l : List UInt8) (s : List Int) (v0 u0 : Value) (Bn Bm n₀ : Nat) (w : World) (hn : n₀ ≤ Bn) (hn2 : n₀ ≤ w.heap.size) (hc : Blk w Bn 22 #[v0]) (hd : Blk w Bm 51 #[u0]) (hb : Bs w v0 l) (hs : ∀ w', Below n₀ w w' → Sl w' u0 s.length 1 (iiv s))
    (hsb : ∀ z ∈ s, -9223372036854775808 ≤ z ∧ z ≤ 9223372036854775807) (hlen : l.length ≤ 1000000000) :
    IterAll Tryz.prog 68 #[.pointer (some ⟨Bn, 0, none⟩), .pointer (some ⟨Bm, 0, none⟩)] (fun x : Pc => #[x.1]) (StW Bn) (fun A B => Below n₀ A B ∧ KeepB Bn 22 A B ∧ KeepB Bm 51 A B) (fun pre x => Bs w x.1 x.2 ∧ ∃ t, pre.map (·.2) ++ x.2 :: t = cutM s l) (fun xs => xs.map (·.2) = cutM s l) w := by
  intro lp J W hW hJ hY h0
  have hcW := hc.grew hW
  have hdW := hd.grew hW
  have hbm : Bm ≠ Bn := by
    rintro rfl
    have := blk_type hc hd
    exact absurd this (by decide)
  refine callsIn_of_wp Tryz.func68 rfl trivial ?_ rfl
  simp only [Tryz.ntmps68, List.size_toArray, List.length_cons, List.length_nil, Nat.reduceAdd, Nat.reduceSub, Array.replicate_succ, Array.replicate_zero, List.push_toArray, List.append_toArray, List.nil_append, List.cons_append]
  gi_wp2
  gi_loopw [4] (fun i wr => ∃ (k : Nat) (pre : List Pc) (vr : Value) (r : List UInt8), i = .int .i64 k ∧ RowKit.Hid (pre.length = k) ∧ J pre wr ∧ Below n₀ w wr ∧ Blk wr Bn 22 #[vr] ∧ Blk wr Bm 51 #[u0] ∧ Bs w vr r ∧ RowKit.Hid (pre.map (·.2) ++ cutF s r.length r k = cutM s l) ∧ r.length + k ≤ l.length) (fun _ wr => cellLen wr Bn)
  case atStart => exact ⟨0, [], v0, l, rfl, Lib.hid rfl, h0, hW.mono hn2, hcW, hdW, hb, Lib.hid rfl, by omega⟩
  case round =>
    obtain ⟨k, pre, vr, r, rfl, hpk, hJ1, hB, hbn, hbd, hbr, hcut, hrk⟩ := hrel
    obtain ⟨ra, rc, rfl, hr1, hr2, -, hr4⟩ := hbr.open
    unfold maxLen at hr2
    have c1 : wr.cell? ⟨Bn, 0, none⟩ = some (.slice ra r.length rc) := hbn.cell 0
    have f1 := hbn.frozen 0
    have hsl := hs wr hB
    obtain ⟨ua, uc, rfl, hu1, hu2, -, hu4⟩ := hsl.open
    unfold maxLen at hu2
    have d1 : wr.cell? ⟨Bm, 0, none⟩ = some (.slice ua s.length uc) := hbd.cell 0
    clear hcW hdW hc hd h0 hW
    by_cases h0 : r = []
    · subst h0
      have HC := Lib.hid hcut
      clear hcut
      gi_wp2
      go_end0
      exact ⟨⟨_, rfl⟩, pre, by have := HC.out.out; rwa [show cutF s ([] : List UInt8).length [] k = [] from rfl, List.append_nil] at this, hJ1⟩
    · have hrp : 0 < r.length := List.length_pos_iff.2 h0
      obtain ⟨b, o, rfl, -⟩ := hr4 (by omega)
      have hstep := cutF_step s r k h0
      have hpos := cutSize_pos s r.length k hrp
      obtain ⟨n, hnn⟩ : ∃ n, n = min r.length (cutSize s r.length k) := ⟨_, rfl⟩
      have htk : r.take (cutSize s r.length k) = r.take n := by rw [List.take_eq_take_iff]; omega
      have hdk : r.drop (cutSize s r.length k) = r.drop n := by
        by_cases hle : cutSize s r.length k ≤ r.length
        · rw [show n = cutSize s r.length k by omega]
        · rw [List.drop_of_length_le (by omega), List.drop_of_length_le (by omega)]
      rw [htk, hdk] at hstep
      have hnp : 0 < n := by omega
      have hnl : n ≤ r.length := by omega
      have hb1 : Bs w (.slice (some ⟨b, o, none⟩) n n) (r.take n) := bs_cap (bs_take hbr n hnl) hnp
      have HST := Lib.hid hstep
      have HJ := Lib.hid hJ
      have hok : ∃ t, pre.map (·.2) ++ r.take n :: t = cutM s l := ⟨_, by rw [← hstep]; exact hcut.out⟩
      clear hstep htk hdk hr4 hpos
      by_cases hs0 : s = []
      · subst hs0
        obtain rfl : n = r.length := by rw [hnn]; unfold cutSize; simp
        obtain ⟨fn, tmps, assign, body, hy, hR⟩ := hY pre (.slice (some ⟨b, o, none⟩) r.length r.length, r.take r.length) wr hJ1 ⟨hb1, hok⟩
        clear hJ1 hY hJ hok hnn
        gi_wp2
        refine hR.mono ?_
        rintro e W3 ⟨rfl, hJ3, hB3, hk3, hk4⟩
        have hbn3 := hk3 _ hbn
        have hbd3 := hk4 _ hbd
        have c3 : W3.cell? ⟨Bn, 0, none⟩ = some (.slice (some ⟨b, o, none⟩) r.length rc) := hbn3.cell 0
        have f3 := hbn3.frozen 0
        clear hy hR hk3 hk4
        have hbel : Below n₀ w W3 := (hB.trans (Below.refl _ _)).trans hB3
        by_cases hcn : rc = r.length
        · have hdr := bs_dropI hbr r.length (by omega)
          rw [Nat.sub_self] at hdr
          rw [if_pos hcn] at hdr
          have hll : (r.drop r.length).length = r.length - r.length := List.length_drop
          gi_wp2
          go_roundw
          case rel => exact ⟨k + 1, _, _, r.drop r.length, by go_num, Lib.hid (by rw [List.length_append, hpk.out]; rfl), HJ.out _ _ _ hJ3 (.inr ⟨_, rfl⟩), grew_set hbel hn _, hbn3.set 0 _, hbd3.other _ _ hbm, by first | exact hdr | (rw [hcn] at hdr ⊢; simpa using hdr) | (simpa [hcn] using hdr), Lib.hid (by have := hcut.out; rw [HST.out] at this; rw [List.map_append, List.append_assoc]; exact this), by rw [List.length_drop]; omega⟩
          case measure =>
            unfold cellLen
            rw [show ∀ v, (W3.setCell ⟨Bn, 0, none⟩ v).cell? ⟨Bn, 0, none⟩ = some v from fun v => (hbn3.set 0 v).cell 0, c1]
            simp only
            omega
        · have hdr := bs_dropI hbr r.length (by omega)
          rw [Nat.sub_self] at hdr
          rw [if_neg hcn] at hdr
          gi_wp2
          go_roundw
          case rel => exact ⟨k + 1, _, _, r.drop r.length, by go_num, Lib.hid (by rw [List.length_append, hpk.out]; rfl), HJ.out _ _ _ hJ3 (.inr ⟨_, rfl⟩), grew_set hbel hn _, hbn3.set 0 _, hbd3.other _ _ hbm, hdr, Lib.hid (by have := hcut.out; rw [HST.out] at this; rw [List.map_append, List.append_assoc]; exact this), by rw [List.length_drop]; omega⟩
          case measure =>
            unfold cellLen
            rw [show ∀ v, (W3.setCell ⟨Bn, 0, none⟩ v).cell? ⟨Bn, 0, none⟩ = some v from fun v => (hbn3.set 0 v).cell 0, c1]
            simp only
            omega
      · have hsp : 0 < s.length := List.length_pos_iff.2 hs0
        have hkm : k % s.length < s.length := Nat.mod_lt _ hsp
        obtain ⟨bu, ou, rfl, e0⟩ := hu4 (by omega)
        have e1 := e0 (k % s.length) _ (iiv_get s _ hkm)
        have hcs : cutSize s r.length k = (max (s[k % s.length]) 1).toNat := by
          unfold cutSize
          rw [if_neg hs0, List.getD_eq_getElem?_getD, List.getElem?_eq_getElem hkm, Option.getD_some]
        obtain ⟨hz1, hz2⟩ := hsb _ (List.getElem_mem hkm)
        generalize s[k % s.length] = z at e1 hcs hz1 hz2
        have hmod : Int.tmod (k : Int) (s.length : Int) = ((k % s.length : Nat) : Int) := by
          rw [Int.tmod_eq_emod_of_nonneg (by omega)]; rfl
        have hmin : min (r.length : Int) (max z 1) = (n : Int) := by omega
        have hq1 : ((k % s.length : Nat) : Int) < (s.length : Int) := by omega
        have hq0 : (0 : Int) ≤ ((k % s.length : Nat) : Int) := by omega
        have hqz : ¬ ((s.length : Int) = 0) := by omega
        generalize k % s.length = j at e1 hmod hq1 hq0 hkm
        clear e0 hcs hnn
        gi_wp2
        refine wpIn_region_quiet open_wide ?_ (by kernel_rfl) (by kernel_rfl) (by kernel_rfl) ?_
        · rintro ⟨_, _, h⟩
          obtain ⟨⟨_, h⟩, _⟩ := h
          cases h
        repeat (quiet_step (fail))
        refine wpQuiet_nil ?_
        rintro _ ⟨nq, rfl⟩
        obtain ⟨fn, tmps, assign, body, hy, hR⟩ := hY pre (.slice (some ⟨b, o, none⟩) n n, r.take n) (wr.drewN nq) (HJ.out _ _ _ hJ1 (.inl ⟨nq, rfl⟩)) ⟨hb1, hok⟩
        clear hJ1 hY hJ hok
        gi_wp2
        refine hR.mono ?_
        rintro e W3 ⟨rfl, hJ3, hB3, hk3, hk4⟩
        have hbn3 := hk3 _ (hbn.drewN nq)
        have hbd3 := hk4 _ (hbd.drewN nq)
        have c3 : W3.cell? ⟨Bn, 0, none⟩ = some (.slice (some ⟨b, o, none⟩) r.length rc) := hbn3.cell 0
        have f3 := hbn3.frozen 0
        clear hy hR hk3 hk4
        have hbel : Below n₀ w W3 := (hB.trans (Below.mono (Drew.grew ⟨nq, rfl⟩ : Grew wr (wr.drewN nq)) (Nat.le_trans hn2 hB.size))).trans hB3
        by_cases hcn : rc = n
        · have hdr := bs_dropI hbr n (by omega)
          rw [if_pos hcn] at hdr
          have hll : (r.drop n).length = r.length - n := List.length_drop
          gi_wp2
          go_roundw
          case rel => exact ⟨k + 1, _, _, r.drop n, by go_num, Lib.hid (by rw [List.length_append, hpk.out]; rfl), HJ.out _ _ _ hJ3 (.inr ⟨_, rfl⟩), grew_set hbel hn _, hbn3.set 0 _, hbd3.other _ _ hbm, by first | exact hdr | (rw [hcn] at hdr ⊢; simpa using hdr) | (simpa [hcn] using hdr), Lib.hid (by have := hcut.out; rw [HST.out] at this; rw [List.map_append, List.append_assoc]; exact this), by rw [List.length_drop]; omega⟩
          case measure =>
            unfold cellLen
            rw [show ∀ v, (W3.setCell ⟨Bn, 0, none⟩ v).cell? ⟨Bn, 0, none⟩ = some v from fun v => (hbn3.set 0 v).cell 0, c1]
            simp only
            omega
        · have hdr := bs_dropI hbr n (by omega)
          rw [if_neg hcn] at hdr
          gi_wp2
          go_roundw
          case rel => exact ⟨k + 1, _, _, r.drop n, by go_num, Lib.hid (by rw [List.length_append, hpk.out]; rfl), HJ.out _ _ _ hJ3 (.inr ⟨_, rfl⟩), grew_set hbel hn _, hbn3.set 0 _, hbd3.other _ _ hbm, hdr, Lib.hid (by have := hcut.out; rw [HST.out] at this; rw [List.map_append, List.append_assoc]; exact this), by rw [List.length_drop]; omega⟩
          case measure =>
            unfold cellLen
            rw [show ∀ v, (W3.setCell ⟨Bn, 0, none⟩ v).cell? ⟨Bn, 0, none⟩ = some v from fun v => (hbn3.set 0 v).cell 0, c1]
            simp only
            omega
theorem info_bs : (Tryz.prog.info? 22).map (fun i => (i.zero, i.size, i.bytes)) = some (some (.slice none 0 0), 1, 24) := by kernel_rfl
/-- a row of the call's own of slices -/
abbrev OwnP (w : World) (base : Nat) (v : Value) (ps : List Pc) : Prop := w.ownsRow base 22 1 v ps.length (ps.map (·.1))
theorem wpListIn_pushP {F : Fence} {n : Nat} {W : World} {ops : Array Oper} {rest : List Oper} {o : Oper} {a : Act} {Q : Exit → Act → World → Prop} (hgd : o.guard = none) (s x : Operand)
    (ho : o.op = .call { callee := .builtin .append, args := #[s, x], argTypes := #[56, 56] })
    (base : Nat) (v : Value) (ps : List Pc) (hs : a.eval s = v) (hown : OwnP W base v ps) (xv : Value) (hx : a.eval x = xv) (p : Pc) (hsl : Sl W xv 1 1 [p.1]) (hp : p.1.oneCell' = true)
    (hlen : ps.length + 1 ≤ 1000000000) (hbase : base ≤ W.heap.size)
    (h : ∀ v' w', OwnP w' base v' (ps ++ [p]) → W.grownBy w' v.ownBlock → wpListIn F n Tryz.prog ops Q rest (a.put o.dst v') w') : wpListIn F n Tryz.prog ops Q (o :: rest) a W := by
  obtain ⟨i0, hi, hz0, hz1, hz2⟩ := info_parts info_bs
  exact wpListIn_app hgd s x 56 ho base 22 i0 (.slice none 0 0) 1 24 Tryz.underlying56 hi hz0 hz1 hz2 rfl (by decide) v ps.length _ hs hown xv 1 [p.1] hx hsl (by intro u hu; rw [List.mem_singleton.1 hu]; exact hp) (by unfold maxLen; omega) (by omega) hbase
    fun v' w' h1 h2 => h v' w' (by rw [OwnP, List.length_append, List.map_append]; exact h1) h2
/-- what the rounds of Cut leave -/
def CutI (w2 : World) (bo Bn : Nat) (pre : List Pc) (W : World) : Prop := ∃ v, Blk W bo 56 #[v] ∧ OwnP W w2.heap.size v pre ∧ Fr (fun i => i = bo ∨ i = Bn) w2 W ∧ ∀ p ∈ pre, Bs w2 p.1 p.2
theorem CutI.ck {w2 : World} {bo Bn : Nat} {pre : List Pc} {A B : World} (h : CutI w2 bo Bn pre A) (e : CK w2.heap.size A B) : CutI w2 bo Bn pre B := by
  obtain ⟨v, h1, h2, h3, h4⟩ := h
  have hb := e.toBelow (Nat.le_refl _)
  exact ⟨v, e.blk h1, e.own h2, ⟨hb.os.trans h3.os, hb.tape.trans h3.tape, hb.output.trans h3.output, Nat.le_trans h3.size hb.size, fun i hi hn => (hb.block i hi).trans (h3.block i hi hn)⟩, h4⟩
theorem CutI.st {w2 : World} {bo Bn : Nat} {pre : List Pc} {A B : World} (hne : bo ≠ Bn) (hlt : Bn < w2.heap.size) (h : CutI w2 bo Bn pre A) (e : StW Bn A B) : CutI w2 bo Bn pre B := by
  obtain ⟨v, h1, h2, h3, h4⟩ := h
  rcases e with ⟨m, rfl⟩ | ⟨x, rfl⟩
  · exact ⟨v, h1.drewN m, own_grew h2 (Drew.grew ⟨m, rfl⟩), h3.drewN m, h4⟩
  · refine ⟨v, h1.other _ _ hne, own_set h2 _ _ (fun he => ?_), h3.set Bn 0 x (fun _ => .inr rfl), h4⟩
    have := (own_lt h2 _ he).1
    exact absurd this (by show ¬ w2.heap.size ≤ Bn; omega)
theorem cutM_len (s : List Int) (l : List UInt8) : (cutM s l).length ≤ l.length := by
  have : ∀ (f : Nat) (l : List UInt8) (i : Nat), (cutF s f l i).length ≤ f := by
    intro f
    induction f with
    | zero => intro l i; simp [cutF]
    | succ f ih =>
      intro l i
      unfold cutF
      split
      · simp
      · have := ih (l.drop (cutSize s l.length i)) (i + 1)
        simp only [List.length_cons]; omega
  exact this _ _ _
set_option maxRecDepth 100000 in
set_option maxHeartbeats 4000000 in
theorem scut_any (l : List UInt8) (s : List Int) (vb vs : Value) (w : World) (hb : Bs w vb l) (hs : Sl w vs s.length 1 (iiv s)) (hsb : ∀ z ∈ s, -9223372036854775808 ≤ z ∧ z ≤ 9223372036854775807) (hlen : l.length ≤ 100000000) :
    Calls Tryz.prog 23 #[vb, vs] w fun e w' => ∃ v', e = .returned v' ∧ (∃ ps, OwnP w' w.heap.size v' ps ∧ (∀ p ∈ ps, Bs w' p.1 p.2) ∧ ps.map (·.2) = cutM s l) ∧ Grew w w' := by
  obtain ⟨ab, cb, rfl⟩ := bs_len hb
  obtain ⟨aq, cq, rfl, -⟩ := hs.open
  refine (callsIn_wide (n := 0)).1 (callsIn_of_wp_marks Tryz.func23 rfl trivial ?_ rfl)
  simp only [Tryz.ntmps23, List.size_toArray, List.length_cons, List.length_nil, Nat.reduceAdd, Nat.reduceSub, Array.replicate_succ, Array.replicate_zero, List.push_toArray, List.append_toArray, List.nil_append, List.cons_append]
  have g0 := grew_alloc w (.cells #[.slice none 0 0] 56)
  have k0 : Blk (w.alloc (.cells #[.slice none 0 0] 56)) w.heap.size 56 #[.slice none 0 0] := Blk.new _ _ _
  gi_wp2_with (first
    | (gi_at_call 43; refine (callsIn_wide.2 (sclone_any l _ _ (hb.grew g0) (by omega))).mono ?_; rintro e w1 ⟨v1, rfl, o1, g1⟩; obtain ⟨a1, c1, rfl⟩ := bs_len (Sl.of_own o1))
    | (gi_at_call 42; refine (callsIn_wide.2 (spieces_any _ _ _ ⟨_, _, _, rfl⟩ ⟨_, _, _, rfl⟩)).mono ?_; rintro e w2 ⟨rfl, rfl⟩))
  obtain ⟨w2, hw2⟩ : ∃ w2, w2 = (w1.alloc (.cells #[.slice a1 l.length c1] 22)).alloc (.cells #[.slice aq s.length cq] 51) := ⟨_, rfl⟩
  have gb : Grew w1 w2 := by rw [hw2]; exact ((Below.refl _ _).alloc (Nat.le_refl _) _).alloc (by simp) _
  have hz2 : w2.heap.size = w1.heap.size + 1 + 1 := by rw [hw2]; simp
  have kB : Blk w2 w1.heap.size 22 #[.slice a1 l.length c1] := by rw [hw2]; exact (Blk.new _ _ _).alloc _
  have kM : Blk w2 (w1.heap.size + 1) 51 #[.slice aq s.length cq] := by rw [hw2]; exact Blk.at (by simp)
  have kO := (k0.grew g1).grew gb
  have gw := (g0.trans g1).trans gb
  have hz1 := k0.lt
  have hz3 : w.heap.size < w1.heap.size := (k0.grew g1).lt
  rw [← hw2]
  have hbl := (Sl.of_own o1).grew gb
  refine wpIn_all (gf := 68) (lb := #[.pointer (some ⟨w1.heap.size, 0, none⟩), .pointer (some ⟨w1.heap.size + 1, 0, none⟩)]) rfl (enters_of Tryz.func68 (by kernel_rfl) rfl)
    (pieces_iter l s _ _ w1.heap.size (w1.heap.size + 1) w.heap.size w2 (by omega) gw.size kB kM hbl (fun w' h => hs.grew (Below.trans gw h)) hsb (by omega))
    (fun A B e => by rcases e with ⟨m, rfl⟩ | ⟨v, rfl⟩; exact keepsOthers_grew (Drew.grew ⟨m, rfl⟩); exact KeepsOthers.setCell _ _ _)
    (fun A B C D h1 h2 h3 => ⟨h1.kp h2.1 h3 gw.size, fun cs hc => h3.blk (h2.2.1 _ (h1.blk hc)), fun cs hc => h3.blk (h2.2.2 _ (h1.blk hc))⟩) (fun _ => rfl)
    (CutI w2 w.heap.size w1.heap.size) (fun pre A B h e => h.st (by omega) (by omega) e) (fun pre A B h hc => h.ck hc)
    ⟨_, kO, World.ownsRow_nil _ _ _ _, Fr.refl _ _, fun p h => by cases h⟩ ?round ?done
  case round =>
    rintro lp pre ⟨pv, pb⟩ W hi ⟨hbs, t, hok⟩
    have hpl : pre.length + 1 ≤ l.length := by
      have h1 := congrArg List.length hok
      have h2 := cutM_len s l
      simp at h1; omega
    simp only at hbs hok
    obtain ⟨pa, pc, rfl⟩ := bs_len hbs
    gi_wp2
    refine ⟨trivial, ?_⟩
    rintro W2 hck hsz ⟨v, h1, h2, h3, h4⟩
    have HBS := Lib.hid hbs
    clear hi hok hck hsz
    have d1 : W2.cell? ⟨w.heap.size, 0, none⟩ = some v := h1.cell 0
    have hne1 : some w.heap.size ≠ v.ownBlock := blk_ne_row h1 h2 (by decide)
    have hO := Lib.hid hne1
    obtain ⟨va, vc, rfl, -⟩ := (Sl.of_own h2).open
    have gN := grew_alloc W2 (.cells #[.slice pa pb.length pc] 22)
    have hsl : Sl (W2.alloc (.cells #[.slice pa pb.length pc] 22)) (.slice (some ⟨W2.heap.size, 0, none⟩) 1 1) 1 1 [.slice pa pb.length pc] := Sl.lit W2 22 (0, 0) #[.slice pa pb.length pc] 1 1 rfl (by unfold maxLen; omega)
    have O2 := Lib.hid (own_grew h2 gN)
    have HSL := Lib.hid hsl
    have hb2 : w2.heap.size ≤ (W2.alloc (.cells #[.slice pa pb.length pc] 22)).heap.size := Nat.le_trans h3.size gN.size
    clear hsl
    gi_wp2_with (gi_at_builtin; refine wpListIn_pushP rfl _ _ rfl w2.heap.size _ pre rfl O2.out _ rfl (.slice pa pb.length pc, pb) HSL.out rfl (by omega) hb2 ?_; intro v' w3 hown3 hgb; obtain ⟨a', c', rfl, -⟩ := (Sl.of_own hown3).open; have hb1 := (h1.alloc _).kept hgb hO.out; have f1' := hb1.frozen 0; have c1' := hb1.cell 0; simp only [List.getElem?_toArray, List.getElem?_cons_zero] at c1')
    have hlt := own_lt O2.out
    have hlt3 := own_lt hown3
    have hnB : some w1.heap.size ≠ (Value.slice va pre.length vc).ownBlock := fun e => by have := (hlt _ e.symm).1; omega
    have hnM : some (w1.heap.size + 1) ≠ (Value.slice va pre.length vc).ownBlock := fun e => by have := (hlt _ e.symm).1; omega
    have hbe := (grownBy_below hgb O2.out hb2).mono gw.size
    refine ⟨((KeepsOthers.alloc _ _).trans (keepsOthers_app O2.out hgb)).trans (KeepsOthers.setCell _ _ _), ⟨grew_set (Below.trans (gN.mono (Nat.le_trans gw.size h3.size)) hbe) (Nat.le_refl _) _, fun cs hc => ((hc.alloc _).kept hgb hnB).other _ _ (show w1.heap.size ≠ w.heap.size by omega), fun cs hc => ((hc.alloc _).kept hgb hnM).other _ _ (show w1.heap.size + 1 ≠ w.heap.size by omega)⟩, ?_⟩
    refine ⟨_, hb1.set 0 _, ?_, ((h3.alloc _).trans' (Fr.of_grown (S := fun k => (Value.slice va pre.length vc).ownBlock = some k) hgb (fun k e => e)) (fun i hi e => by have := (hlt _ e).1; omega)).set w.heap.size 0 _ (fun _ => .inl rfl), ?_⟩
    · have := own_set hown3 ⟨w.heap.size, 0, none⟩ (.slice a' (pre.length + 1) c') (fun e => by have := (hlt3 _ e).1; exact absurd this (by show ¬ w2.heap.size ≤ w.heap.size; omega))
      simp only [OwnP, List.length_append, List.length_cons, List.length_nil, Nat.zero_add] at this ⊢
      exact this
    · intro q hq
      rcases List.mem_append.1 hq with hq | hq
      · exact h4 q hq
      · rw [List.mem_singleton.1 hq]; exact HBS.out
  case done =>
    rintro xs W hxs ⟨v, h1, h2, h3, h4⟩ hD
    have c1 := h1.cell 0
    simp only [List.getElem?_toArray, List.getElem?_cons_zero] at c1
    obtain ⟨va, vc, rfl, -⟩ := (Sl.of_own h2).open
    gi_wp2
    refine ⟨by simp, .inl ⟨_, _, rfl, run_takeDeferred hD, ?_⟩⟩
    have hck := CK.putObj _ W _ _ (.deferred none) hD rfl (Nat.le_refl _)
    refine ⟨_, results_tmp rfl _ _ _, _, rfl, ⟨xs, ?_, ?_, hxs⟩, ?_⟩
    · exact own_mono (hck.own h2) gw.size
    · intro p hp
      have hbp := h4 p hp
      have hu : ∀ (x : Value), (∃ a n c, x = .slice a n c) → ∀ u, (bv p.2)[0]? = some u → u ∉ #[x] := by
        rintro x ⟨a, n, c, rfl⟩ u hu hm
        obtain ⟨_, _, rfl⟩ := List.mem_map.1 (List.mem_of_getElem? hu)
        simp at hm
      refine Sl.ext (hbp.fr h3 (fun g hg hne hS => ?_)) hck.ext
      rcases hS with e | e
      · exact hbp.not_blk kO (hu _ ⟨_, _, _, rfl⟩) g hg hne e
      · exact hbp.not_blk kB (hu _ ⟨_, _, _, rfl⟩) g hg hne e
    · exact ((show Below w.heap.size w w2 from gw).trans (h3.below gw.size (fun i hS => by rcases hS with rfl | rfl <;> omega))).trans (hck.toBelow gw.size)
end Go.Proofs.YtbjoohafgkodcaaGreat
