/- slices.Clone and slices.Insert on byte slices: contracts. -/
import Derived.Test.YtgdkgmpgkocnlaaFrS
import Derived.Test.YtgdkgmpgkocnlaaStL
import Derived.Lib.Overlaps
import Derived.Laws.CopyRow
import Derived.Deep.RegionLaw
namespace Go.Proofs.Ytgdkgmpgkocnlaa
open Go Go.RowKit Go.Shelf

theorem sclone_any (a : List UInt8) (va : Value) (w : World) (ha : Bs w va a) (hlen : a.length ≤ 140737488355328) :
    Calls Try.prog 17 #[va] w fun e w' => ∃ v, e = .returned v ∧ OwnB w' w.heap.size v a ∧ Grew w w' := by
  have he := fun (w : World) (a : Option Addr) (n c : Nat) => Lib.run_eql_slice_nil (P := Try.prog) w 25 5 a n c 0 0 Try.underlying25
  rcases ha.shape with ⟨rfl, h0, h1⟩ | ⟨ad, cap, rfl, h1, h2, h3, h4⟩
  · obtain rfl : a = [] := List.eq_nil_of_length_eq_zero h0
    go_enter Try.func17, Try.ntmps17
    go_wp2
    go_ret
    exact ⟨_, rfl, ownB_nil _ _, Below.refl _ _⟩
  · clear h4
    go_enter Try.func17, Try.ntmps17
    go_wp2_with (at_builtin; refine wpList_push rfl _ _ rfl w.heap.size _ [] rfl (World.ownsRow_lit _ #[] 0 (Nat.le_refl _) (Nat.zero_le _) rfl) _ rfl a (ha.grew ((Below.refl _ _).alloc (Nat.le_refl _) _)) (by simp; omega) (by simp) ?_; intro v' w1 hown1 hB1 _)
    go_ret
    exact ⟨_, rfl, hown1, ((Below.refl _ _).alloc (Nat.le_refl _) _).trans hB1⟩
/-- a copy whose run is known, as one operation of the walk -/
theorem wpList_copy_own {w : World} {ops : Array Oper} {rest : List Oper} {o : Oper} {a : Act} {Q : Exit → Act → World → Prop} (hgd : o.guard = none) (d s : Operand)
    (ho : o.op = .call { callee := .builtin .copy, args := #[d, s], argTypes := #[25, 25] }) (v u : Value) (hd : a.eval d = v) (hs : a.eval s = u) {v' : Value} {w' : World}
    (hr : (Builtin.copy_ #[25, 25] o.type #[v, u]).run Try.prog w = .ok v' w') (h : wpList Try.prog ops Q rest (a.put o.dst v') w') : wpList Try.prog ops Q (o :: rest) a w := by
  refine wpList_plain hgd fun K hK => ?_
  unfold Oper.wp
  simp [execOp, ho, resolve, invoke, builtin, hd, hs, hr, Result.andThen]
  exact hK _ _ h
/-- .. and as one step of a region that draws -/
theorem step_copy_own {ops : Array Oper} {o : Oper} {a : Act} {w : World} {K : Act → World → Prop} {Q : Exit → Act → World → Prop} {E : Prop} (hgd : o.guard = none) (d s : Operand)
    (ho : o.op = .call { callee := .builtin .copy, args := #[d, s], argTypes := #[25, 25] }) (v u : Value) (hd : a.eval d = v) (hs : a.eval s = u) {v' : Value} {w' : World}
    (hr : (Builtin.copy_ #[25, 25] o.type #[v, u]).run Try.prog w = .ok v' w') (h : K (a.put o.dst v') w') :
    if Region.wanted o (yielded ops a.tmps) = true then Oper.wp Try.prog o a w K Q else E := by
  have hw : Region.wanted o (yielded ops a.tmps) = true := by simp [Region.wanted, hgd]
  rw [if_pos hw]
  unfold Oper.wp
  simp [execOp, ho, resolve, invoke, builtin, hd, hs, hr, Result.andThen]
  exact h
set_option maxRecDepth 100000 in
set_option maxHeartbeats 4000000 in
/-- bytes put in: into a row of the call's own, from another block -/
theorem sinsert_any (base : Nat) (l m : List UInt8) (vl vm : Value) (i : Nat) (w : World) (hi : i ≤ l.length) (hl : OwnB w base vl l) (hm : PayV w 0 vm m) (hne : ∀ g, Value.blk vm = some g → vl.ownBlock ≠ some g) (hlen : l.length + m.length ≤ 1000000000) (hbase : base ≤ w.heap.size) :
    Calls Try.prog 25 #[vl, .int .i64 i, vm] w fun e w' => ∃ v', e = .returned v' ∧ OwnB w' base v' (l.take i ++ m ++ l.drop i) ∧ Below base w w' := by
  obtain ⟨al, cl, rfl, hc1, hc2⟩ : ∃ a c, vl = .slice a l.length c ∧ l.length ≤ c ∧ c ≤ 9223372036854775807 := by
    obtain ⟨a, c, e, q1, q2, _⟩ := (Sl.of_own hl).open
    unfold maxLen at q2
    exact ⟨a, c, e, q1, by omega⟩
  obtain ⟨am, cm, rfl, hk1, hk2, hk0⟩ := hm.1.open
  unfold maxLen at hk2
  have HL := Lib.hid hl
  have HM := Lib.hid hm
  have hz0 : (i : Int) ≤ (l.length : Int) := by omega
  by_cases h0 : m = []
  · subst h0
    rw [show l.take i ++ [] ++ l.drop i = l by simp]
    clear hl hm hne
    go_enter Try.func25, Try.ntmps25
    go_wp2
    all_goals go_ret
    all_goals first
      | exact ⟨_, rfl, HL.out, Below.refl _ _⟩
      | (have hci : cl = i := by assumption
         subst hci
         exact ⟨_, rfl, HL.out, Below.refl _ _⟩)
  have hmp : 0 < m.length := List.length_pos_iff.2 h0
  have hmz : ¬ ((m.length : Int) = 0) := by omega
  by_cases h1 : i = l.length
  · subst h1
    rw [show l.take l.length ++ m ++ l.drop l.length = l ++ m by simp]
    clear hl hm hne
    go_enter Try.func25, Try.ntmps25
    go_wp2_with (at_builtin; refine wpList_push rfl _ _ rfl base _ l rfl (by first | exact HL.out | (have hci : cl = l.length := by assumption; subst hci; exact HL.out)) _ rfl m HM.out.1 (by omega) hbase ?_; intro v' w1 hown1 hB1 _)
    all_goals go_ret
    all_goals exact ⟨_, rfl, hown1, hB1⟩
  have hil : i < l.length := by omega
  have hiz : ¬ ((i : Int) = (l.length : Int)) := by omega
  obtain ⟨g, cur, rfl, hbg, hg, hcs, ht⟩ : ∃ g cur, al = some ⟨g, 0, none⟩ ∧ base ≤ g ∧ Blk w g 5 cur ∧ cur.size = cl ∧ cur.toList.take l.length = bv l := by
    rcases hl.2 with ⟨e, e2⟩ | ⟨g, cap, cur, e, hb, hg, hn, hc, hs, ht⟩
    · omega
    · simp only [Value.slice.injEq] at e
      obtain ⟨rfl, -, rfl⟩ := e
      exact ⟨g, cur, rfl, hb, hg, by omega, by simpa using ht⟩
  obtain ⟨vb, voff, rfl, hmc⟩ := hk0.2 (by omega)
  rw [Nat.mul_one] at hk0
  obtain ⟨-, kcs, hkb⟩ := hm.2 vb rfl
  have hvb : vb ≠ g := fun e => hne vb rfl (by rw [e]; rfl)
  have hz9 : ∀ W : World, (Go.sizeOf 5).run Try.prog W = .ok 1 W := fun W => by
    obtain ⟨i0, hi0, -, -, -⟩ := info_parts info_u8
    rw [run_sizeOf W hi0]
    rfl
  have hsz : (Try.prog.info? 5).map (·.size) = some 1 := by kernel_rfl
  have hcl : cur.toList.length = cl := by simpa using hcs
  have hcur : cur.toList = bv l ++ cur.toList.drop l.length := by rw [← ht, List.take_append_drop]
  have hw1 : IntKind.i64.wrap ((i : Int) + (m.length : Int)) = (i : Int) + (m.length : Int) := by rw [IntKind.wrap_i64]; omega
  have hb1 : (0 : Int) ≤ (i : Int) + (m.length : Int) := by omega
  have htn : ((i : Int) + (m.length : Int)).toNat = i + m.length := by omega
  have hsrcL : ∀ W : World, Blk W g 5 cur → ∀ j v, (bv (l.drop i))[j]? = some v → W.cell? ((⟨g, i, none⟩ : Addr).add j) = some v := by
    intro W hW j v hj
    rw [Addr.add_lit, hW.cell]
    have h2 : cur.toList[i + j]? = some v := by
      rw [hcur, List.getElem?_append_left (by
        have := (List.getElem?_eq_some_iff.1 hj).1
        rw [bv_length, List.length_drop] at this
        rw [bv_length]; omega)]
      have : bv (l.drop i) = (bv l).drop i := by simp [bv]
      rw [this, List.getElem?_drop] at hj
      exact hj
    simpa using h2
  have hsrcM : ∀ W : World, (∀ k cs, Blk w k 5 cs → k ≠ g → Blk W k 5 cs) → ∀ j v, (bv m)[j]? = some v → W.cell? ((⟨vb, voff, none⟩ : Addr).add j) = some v := by
    intro W hW j v hj
    rw [Addr.add_lit, (hW vb kcs hkb hvb).cell, ← hkb.cell]
    exact hmc j v hj
  by_cases hroom : l.length + m.length ≤ cl
  · have hz3 : ¬ ((cl : Int) < (l.length : Int) + (m.length : Int)) := by omega
    have hb2 : ¬ (cl = i + m.length) := by omega
    have hb4 : ¬ (cl = i) := by omega
    have hb3 : (i : Int) ≤ (l.length : Int) + (m.length : Int) := by omega
    have hov : ∀ lb cb, (callFunc 32 #[.slice (some ⟨vb, voff, none⟩) m.length cm, .slice (some ⟨g, i + m.length, none⟩) lb cb]).run Try.prog w = .ok (.value (.bool false)) w := fun lb cb => by
      rw [run_callFunc_extern Try.func32 (by kernel_rfl) (by kernel_rfl) (by kernel_rfl) (e := Extern.SlicesOverlaps.overlaps #[25, 25] #[4]) (by kernel_rfl),
        Lib.run_overlaps_apart w 25 4 5 Try.underlying25 1 (fun W => hz9 W) ⟨vb, voff, none⟩ ⟨g, i + m.length, none⟩ m.length cm lb cb hvb 5 5 kcs.size cur.size (by unfold World.shape?; rw [hkb]) (by unfold World.shape?; rw [hg]) (by omega) (hkb.frozen _) (hkb.frozen _)]
      rfl
    obtain ⟨R1, hR1⟩ : ∃ R1 : Array Value, R1 = (cur.toList.take (i + m.length) ++ bv (l.drop i) ++ cur.toList.drop (i + m.length + (bv (l.drop i)).length)).toArray := ⟨_, rfl⟩
    obtain ⟨R2, hR2⟩ : ∃ R2 : Array Value, R2 = (R1.toList.take i ++ bv m ++ R1.toList.drop (i + (bv m).length)).toArray := ⟨_, rfl⟩
    have hdl : (bv (l.drop i)).length = l.length - i := by simp
    have hR1s : R1.size = cl := by rw [hR1]; simp; omega
    have hR2s : R2.size = cl := by rw [hR2]; simp; omega
    have hR2t : R2.toList.take (l.length + m.length) = bv (l.take i ++ m ++ l.drop i) := by
      have e1 : R1.toList.take i = bv (l.take i) := by
        rw [hR1, List.toList_toArray, List.append_assoc, List.take_append_of_le_length (by rw [List.length_take]; omega), List.take_take, Nat.min_eq_left (by omega), hcur, List.take_append_of_le_length (by rw [bv_length]; omega)]
        simp [bv]
      have e2 : R1.toList.drop (i + (bv m).length) = bv (l.drop i) ++ cur.toList.drop (i + m.length + (bv (l.drop i)).length) := by
        rw [hR1, List.toList_toArray, List.append_assoc]
        exact List.drop_left' (by rw [List.length_take, bv_length]; omega)
      rw [hR2, List.toList_toArray, e1, e2, ← List.append_assoc, ← bv_append, ← bv_append]
      exact List.take_left' (by simp; omega)
    have hll : (l.take i ++ m ++ l.drop i).length = l.length + m.length := by simp; omega
    have hcp1 : ∀ (W : World), Blk W g 5 cur → ∀ ty dc sc, (Builtin.copy_ #[25, 25] ty #[.slice (some ⟨g, i + m.length, none⟩) (l.length + m.length - (i + m.length)) dc, .slice (some ⟨g, i, none⟩) (l.length + m.length - i) sc]).run Try.prog W = .ok (goInt (bv (l.drop i)).length) (W.setRow g R1) := fun W hW ty dc sc => by
      rw [hR1]
      exact run_copy_row Try.prog W _ _ ty 5 g (i + m.length) (l.length + m.length - (i + m.length)) dc ⟨g, i, none⟩ (l.length + m.length - i) sc cur 5 (bv (l.drop i)) Try.underlying25 hsz hW (by rw [hdl]; simp only [Nat.min_def]; split <;> omega) (hsrcL W hW) (by omega) (bv_one _)
    have hcp2 : ∀ (W : World), Blk W g 5 R1 → (∀ k cs, Blk w k 5 cs → k ≠ g → Blk W k 5 cs) → ∀ ty dc, (Builtin.copy_ #[25, 25] ty #[.slice (some ⟨g, i, none⟩) (l.length + m.length - i) dc, .slice (some ⟨vb, voff, none⟩) m.length cm]).run Try.prog W = .ok (goInt (bv m).length) (W.setRow g R2) := fun W hW hO ty dc => by
      rw [hR2]
      exact run_copy_row Try.prog W _ _ ty 5 g i (l.length + m.length - i) dc ⟨vb, voff, none⟩ m.length cm R1 5 (bv m) Try.underlying25 hsz hW (by rw [bv_length]; simp only [Nat.min_def]; split <;> omega) (hsrcM W hO) (by rw [bv_length]; omega) (bv_one _)
    have HT := Lib.hid hR2t
    have HK1 := Lib.hid hcp1
    have HK2 := Lib.hid hcp2
    have HG := Lib.hid hg
    clear hl hm hne hk0 hmc hkb hsrcL hsrcM hcur ht hR1 hR2 hR2t hcp1 hcp2 hg hcl HL HM
    go_enter Try.func25, Try.ntmps25
    go_wp2_with (simp only [hov])
    have gD : Grew w w.drew := Drew.grew ⟨1, rfl⟩
    have hO : ∀ k cs, Blk w k 5 cs → k ≠ g → Blk (w.drew.setRow g R1) k 5 cs := fun k cs hk hne => (setRow_other w.drew g k _ (by first | exact hne | exact hne.symm)).trans (hk.grew gD)
    have hcpB := fun ty dc => HK2.out (w.drew.setRow g R1) ((HG.out.grew gD).row R1) hO ty dc
    have hfin : OwnB ((w.drew.setRow g R1).setRow g R2) base (.slice (some ⟨g, 0, none⟩) (l.length + m.length) cl) (l.take i ++ m ++ l.drop i) := by
      rw [OwnB, hll]
      exact ⟨by simp; omega, .inr ⟨g, cl, R2, rfl, hbg, ((HG.out.grew gD).row R1).row R2, hroom, by unfold maxLen; omega, by omega, by rw [Nat.mul_one]; exact HT.out⟩⟩
    have hbel : Below base w ((w.drew.setRow g R1).setRow g R2) := below_setRow (below_setRow (Below.mono gD hbase) hbg R1) hbg R2
    have HF := Lib.hid hfin
    have HB := Lib.hid hbel
    clear hO hfin hbel
    go_region_law (refine step_copy_own rfl (.tmp 73) (.tmp 76) rfl (.slice (some ⟨g, i + m.length, none⟩) (l.length + m.length - (i + m.length)) (cl - (i + m.length))) (.slice (some ⟨g, i, none⟩) (l.length + m.length - i) (cl - i)) (by simp [Act.eval, Act.put]) (by simp [Act.eval, Act.put]) (HK1.out w.drew (HG.out.grew gD) _ _ _) ?_)
    all_goals go_wp2_with (at_builtin; refine wpList_copy_own rfl (.tmp 80) (.tmp 81) rfl _ _ rfl rfl (hcpB _ _) ?_)
    all_goals go_ret
    all_goals exact ⟨_, rfl, HF.out, HB.out⟩
  · have hz3 : (cl : Int) < (l.length : Int) + (m.length : Int) := by omega
    obtain ⟨i0, hi0, z0, z1, z2⟩ := info_parts info_u8
    have hkk : (l.length : Int) + (m.length : Int) - (i : Int) = ((l.length + m.length - i : Nat) : Int) := by omega
    have hik : i + (l.length + m.length - i) = l.length + m.length := by omega
    have hbig : (l.length + m.length) * i0.bytes ≤ 140737488355328 := by rw [z2]; omega
    have hold : (Builtin.firstCells i0.size i (.slice (some ⟨g, 0, none⟩) i cl)).run Try.prog w.drew = .ok (bv (l.take i)).toArray w.drew := by
      rw [z1]
      refine run_firstCells_some w.drew 1 i ⟨g, 0, none⟩ i cl (bv (l.take i)) (by simp; omega) fun j v hj => ?_
      rw [Addr.add_lit, Nat.zero_add, (show Blk w.drew g 5 cur from hg).cell]
      have hj2 := (List.getElem?_eq_some_iff.1 hj).1
      rw [bv_length, List.length_take] at hj2
      have h2 : cur.toList[j]? = some v := by
        rw [hcur, List.getElem?_append_left (by rw [bv_length]; omega)]
        have : bv (l.take i) = (bv l).take i := by simp [bv]
        rw [this, List.getElem?_take_of_lt (by omega)] at hj
        exact hj
      simpa using h2
    obtain ⟨G, hG⟩ : ∃ G, G = grownCap w (l.length + m.length) cl 5 := ⟨_, rfl⟩
    have hG63 := grownCap_le_maxLen w (l.length + m.length) cl 5 (by unfold maxLen; omega)
    have hGn : l.length + m.length ≤ grownCap w (l.length + m.length) cl 5 := grownCap_ge w _ _ _
    have hrz : ∀ ty, (Builtin.append_ #[25, 3] ty #[.slice (some ⟨g, 0, none⟩) i cl, .int .i64 ((l.length : Int) + (m.length : Int) - (i : Int))]).run Try.prog w =
        .ok (.slice (some ⟨w.heap.size, 0, none⟩) (l.length + m.length) (grownCap w (l.length + m.length) cl 5)) (w.drew.alloc (.cells ((bv (l.take i)).toArray ++ Builtin.zeroCells (Value.int .u8 0).cells (l.length + m.length - i) ++ Builtin.zeroCells (Value.int .u8 0).cells (grownCap w (l.length + m.length) cl 5 - (l.length + m.length))) 5)) := fun ty => by
      have h := Lib.run_append_grow_zeros w 25 3 ty 5 i0 (.int .u8 0) .i64 .i64 Try.underlying25 Try.underlying3 hi0 z0 (some ⟨g, 0, none⟩) i cl (bv (l.take i)) hold (l.length + m.length - i) (by omega) (by rw [z1]; simp) (by omega) (by omega) (by rw [z2]; omega)
        (by rw [hik]; exact growslice_fits (by omega) hbig)
      rw [hik] at h
      rw [hkk]
      exact h
    rw [← hG] at hrz hG63 hGn
    unfold maxLen at hG63
    obtain ⟨R0, hR0⟩ : ∃ R0 : Array Value, R0 = (bv (l.take i)).toArray ++ Builtin.zeroCells (Value.int .u8 0).cells (l.length + m.length - i) ++ Builtin.zeroCells (Value.int .u8 0).cells (G - (l.length + m.length)) := ⟨_, rfl⟩
    rw [← hR0] at hrz
    obtain ⟨R1, hR1⟩ : ∃ R1 : Array Value, R1 = (R0.toList.take i ++ bv m ++ R0.toList.drop (i + (bv m).length)).toArray := ⟨_, rfl⟩
    obtain ⟨R2, hR2⟩ : ∃ R2 : Array Value, R2 = (R1.toList.take (i + m.length) ++ bv (l.drop i) ++ R1.toList.drop (i + m.length + (bv (l.drop i)).length)).toArray := ⟨_, rfl⟩
    have hdl : (bv (l.drop i)).length = l.length - i := by simp
    have hR0s : R0.size = G := by rw [hR0]; simp [Builtin.zeroCells, Value.cells]; omega
    have hR1s : R1.size = G := by rw [hR1]; simp; omega
    have hR2s : R2.size = G := by rw [hR2]; simp; omega
    have hR2t : R2.toList.take (l.length + m.length) = bv (l.take i ++ m ++ l.drop i) := by
      have e0 : R0.toList.take i = bv (l.take i) := by
        rw [hR0]
        simp only [Array.toList_append, List.append_assoc]
        exact List.take_left' (by simp; omega)
      have e1 : R1.toList.take (i + m.length) = bv (l.take i) ++ bv m := by
        rw [hR1, List.toList_toArray, e0]
        exact List.take_left' (by simp; omega)
      rw [hR2, List.toList_toArray, e1, ← bv_append, ← bv_append]
      exact List.take_left' (by simp; omega)
    have hll : (l.take i ++ m ++ l.drop i).length = l.length + m.length := by simp; omega
    have hGi : ¬ (G = i) := by omega
    have hGim : ¬ (G = i + m.length) := by omega
    have hci : ¬ (cl = i) := by omega
    have hb3 : (i : Int) ≤ (l.length : Int) := by omega
    have hgw := hg.lt
    obtain ⟨h, hh⟩ : ∃ h, h = w.heap.size := ⟨_, rfl⟩
    have hcp1 : ∀ (W : World), Blk W h 5 R0 → (∀ k cs, Blk w k 5 cs → k ≠ h → Blk W k 5 cs) → ∀ ty dc, (Builtin.copy_ #[25, 25] ty #[.slice (some ⟨h, i, none⟩) (l.length + m.length - i) dc, .slice (some ⟨vb, voff, none⟩) m.length cm]).run Try.prog W = .ok (goInt (bv m).length) (W.setRow h R1) := fun W hW hO ty dc => by
      rw [hR1]
      exact run_copy_row Try.prog W _ _ ty 5 h i (l.length + m.length - i) dc ⟨vb, voff, none⟩ m.length cm R0 5 (bv m) Try.underlying25 hsz hW (by rw [bv_length]; simp only [Nat.min_def]; split <;> omega) (fun j v hj => by rw [Addr.add_lit, (hO vb kcs hkb (by have := hkb.lt; omega)).cell, ← hkb.cell]; exact hmc j v hj) (by rw [bv_length]; omega) (bv_one _)
    have hcp2 : ∀ (W : World), Blk W h 5 R1 → Blk W g 5 cur → ∀ ty dc sc, (Builtin.copy_ #[25, 25] ty #[.slice (some ⟨h, i + m.length, none⟩) (l.length + m.length - (i + m.length)) dc, .slice (some ⟨g, i, none⟩) (l.length - i) sc]).run Try.prog W = .ok (goInt (bv (l.drop i)).length) (W.setRow h R2) := fun W hW hW2 ty dc sc => by
      rw [hR2]
      exact run_copy_row Try.prog W _ _ ty 5 h (i + m.length) (l.length + m.length - (i + m.length)) dc ⟨g, i, none⟩ (l.length - i) sc R1 5 (bv (l.drop i)) Try.underlying25 hsz hW (by rw [hdl]; simp only [Nat.min_def]; split <;> omega) (hsrcL W hW2) (by omega) (bv_one _)
    obtain ⟨W1, hW1⟩ : ∃ W1, W1 = w.drew.alloc (.cells R0 5) := ⟨_, rfl⟩
    have gD : Grew w w.drew := Drew.grew ⟨1, rfl⟩
    have gW : Grew w W1 := by rw [hW1]; exact gD.trans (grew_alloc _ _)
    have k0 : Blk W1 h 5 R0 := by rw [hW1, hh]; exact Blk.new w.drew _ _
    rw [← hW1] at hrz
    have c1 := fun ty dc => hcp1 W1 k0 (fun k cs hk _ => hk.grew gW) ty dc
    have k1 := k0.row R1
    have k2 : Blk (W1.setRow h R1) g 5 cur := (setRow_other W1 h g _ (by omega)).trans (hg.grew gW)
    have c2 := fun ty dc sc => hcp2 (W1.setRow h R1).drew k1 k2 ty dc sc
    have hfin : OwnB ((W1.setRow h R1).drew.setRow h R2) base (.slice (some ⟨h, 0, none⟩) (l.length + m.length) G) (l.take i ++ m ++ l.drop i) := by
      rw [OwnB, hll]
      exact ⟨by simp; omega, .inr ⟨h, G, R2, rfl, by omega, (show Blk (W1.setRow h R1).drew h 5 R1 from k1).row R2, hGn, by unfold maxLen; omega, by omega, by rw [Nat.mul_one]; exact hR2t⟩⟩
    have hbel : Below base w ((W1.setRow h R1).drew.setRow h R2) := below_setRow ((below_setRow (Below.mono gW hbase) (show base ≤ h by omega) R1).trans (Below.mono (Drew.grew ⟨1, rfl⟩ : Grew (W1.setRow h R1) (W1.setRow h R1).drew) (by
      have := k1.lt
      omega))) (show base ≤ h by omega) R2
    rw [← hh] at hrz
    have HF := Lib.hid hfin
    have HB := Lib.hid hbel
    clear hl hm hne hk0 hmc hkb hsrcL hsrcM hcur ht hR0 hR1 hR2 hR2t hcp1 hcp2 hg hcl HL HM hold hG hkk hik hfin hbel k0 k1 k2 gW hW1 hh z0 z1 z2 hi0
    go_enter Try.func25, Try.ntmps25
    go_wp2_with (first
      | (at_builtin; refine Lib.wpList_append_run _ rfl _ _ _ _ rfl _ _ rfl rfl _ _ (hrz _) ?_)
      | (at_builtin; refine wpList_copy_own rfl (.tmp 43) (.tmp 44) rfl _ _ rfl rfl (c1 _ _) ?_))
    go_region_law (refine step_copy_own rfl (.tmp 50) (.tmp 53) rfl (.slice (some ⟨h, i + m.length, none⟩) (l.length + m.length - (i + m.length)) (G - (i + m.length))) (.slice (some ⟨g, i, none⟩) (l.length - i) (cl - i)) (by simp [Act.eval, Act.put]) (by simp [Act.eval, Act.put]) (c2 _ _ _) ?_)
    all_goals go_wp2
    all_goals go_ret
    all_goals exact ⟨_, rfl, HF.out, HB.out⟩
end Go.Proofs.Ytgdkgmpgkocnlaa
