/- The reference of layer 8: Find, Specs: contracts. -/
import Derived.Test.YtciihinonoamlaaSchS
namespace Go.Proofs.Ytciihinonoamlaa
open Go Go.RowKit Go.Shelf

theorem find_ofKind (kind : Nat) (num : Int) (l : List Row) : (ofKind kind l).find? (fun r => (r.2.1 : Int) == num) = l.find? (isField kind num) := by
  unfold ofKind
  rw [List.find?_filter]
  congr 1
  funext r
  simp only [isField]
  cases h1 : (r.1 == kind) <;> cases h2 : ((r.2.1 : Int) == num) <;> simp_all

theorem results_cell1_tmp {P : Program} {fn : Func} {p u : Tmp} {t1 : TypeId} (h : fn.results = #[.cell p t1, .tmp u]) (tmps : Array Value) (w : World) (a1 : Addr) (v1 v2 : Value)
    (h1 : tmps.getD p undef = .pointer (some a1)) (h2 : tmps.getD u undef = v2) (l1 : (loadVar t1 a1).run P w = .ok v1 w) :
    (results fn tmps).run P w = .ok (.tuple #[v1, v2]) w := by
  have h1' : tmps[p]?.getD undef = .pointer (some a1) := by simpa using h1
  have h2' : tmps[u]?.getD undef = v2 := by simpa using h2
  simp [results, h, h1', h2', asAddr, l1]

set_option maxRecDepth 10000 in
set_option maxHeartbeats 2000000 in
theorem rfind_any (kind : Nat) (ver num : Int) (w : World) : Calls Try.prog 11 #[.int .u8 kind, .int .i64 ver, .int .i64 num] w fun e w' => e = .returned (.tuple (foundV ((rowsIn ver).find? (isField kind num)))) ∧ Grew w w' := by
  rw [← find_ofKind]
  have hlen : (ofKind kind (rowsIn ver)).length ≤ 40 := Nat.le_trans (List.length_filter_le _ _) (rowsIn_len ver)
  obtain ⟨L, hL⟩ : ∃ L, ofKind kind (rowsIn ver) = L := ⟨_, rfl⟩
  have hc := rof_any kind ver
  rw [hL] at hlen ⊢
  simp only [hL] at hc
  have HC := Lib.hid hc
  clear hL hc
  go_enter Try.func11, Try.ntmps11
  go_wp2_with fail
  refine (HC.out _).mono ?_
  rintro e w1 ⟨v, rfl, hs, hg⟩
  obtain ⟨a, c, rfl, h1, h2, h3, h4⟩ := (Sl.of_own hs).open
  have hb := (Blk.new w 28 #[.int .i64 0, .int .i64 0, .int .i64 0]).grew hg
  have hg1 : Grew w w1 := Below.trans ((Below.refl _ _).alloc (Nat.le_refl _) _) (hg.mono (by simp))
  clear h3 hs HC hg
  have z0 := hb.cell 0
  have z1 := hb.cell 1
  have z2 := hb.cell 2
  simp at z0 z1 z2
  have f0 := hb.frozen 0
  have f1 := hb.frozen 1
  have f2 := hb.frozen 2
  go_wp2_with fail
  go_loop [9] (fun i => ∃ j : Nat, j ≤ L.length ∧ i = .int .i64 j ∧ Hid ((L.take j).find? (fun r => (r.2.1 : Int) == num) = none)) (fun i => L.length - (intOf i).toNat)
  case atStart => exact ⟨0, Nat.zero_le _, rfl, rfl⟩
  case round =>
    obtain ⟨j, hj, rfl, HN⟩ := hrel
    by_cases hlt : j < L.length
    · obtain ⟨b, off, rfl, hcell⟩ := h4 (by omega)
      obtain ⟨kd, nm, ty, sl, si, hrow⟩ : ∃ kd nm ty sl si, L[j] = (kd, nm, ty, sl, si) := ⟨_, _, _, _, _, rfl⟩
      have hget : ∀ i, i < 3 → (specsV L)[j * 3 + i]? = (specV (kd, nm, ty, sl, si))[i]? := fun i hi => by rw [← hrow]; exact flat_get (k := 3) (fun _ => rfl) L j hlt i hi
      have c0 := hcell _ _ (hget 0 (by omega))
      have c1 := hcell _ _ (hget 1 (by omega))
      have c2 := hcell _ _ (hget 2 (by omega))
      simp only [Nat.add_zero, ← Nat.add_assoc] at c0 c1 c2
      have htk : L.take (j + 1) = L.take j ++ [L[j]] := List.take_succ_eq_append_getElem hlt
      rw [hrow] at htk
      clear hget hcell h4
      by_cases hn : (nm : Int) = num
      · subst hn
        have hf : L.find? (fun r => (r.2.1 : Int) == (nm : Int)) = some (kd, nm, ty, sl, si) := by
          refine find_prefix (List.take_prefix (j + 1) L) ?_
          rw [htk, List.find?_append, HN.out]; simp
        have HF := Lib.hid hf
        clear hf htk hrow
        go_wp2
        refine bodyPost_ret (results_cell1_tmp rfl _ _ ⟨w.heap.size, 0, none⟩ _ _ rfl rfl (loadVar_spec _ _ (kd, nm, ty, sl, si) _ rfl (((hb.set 0 _).set 1 _).set 2 _))) rfl ⟨?_, grew_set (grew_set (grew_set hg1 (Nat.le_refl _) _) (Nat.le_refl _) _) (Nat.le_refl _) _⟩
        rw [HF.out]; rfl
      · have hn2 : ((nm : Int) == num) = false := by simpa using hn
        have hf : (L.take (j + 1)).find? (fun r => (r.2.1 : Int) == num) = none := by rw [htk, List.find?_append, HN.out]; simp [hn]
        have HF := Lib.hid hf
        clear hf htk hrow
        go_wp2
        go_round
        case rel => exact ⟨j + 1, by omega, by go_num, HF⟩
        case measure => simp [intOf]; omega
    · obtain rfl : j = L.length := by omega
      have HF := Lib.hid HN.out
      rw [List.take_length] at HF
      clear HN h4
      go_wp2
      refine bodyPost_ret (results_cell1_tmp rfl _ _ ⟨w.heap.size, 0, none⟩ _ _ rfl rfl (loadVar_spec _ _ (0, 0, 0, 0, 0) _ rfl (((hb.set 0 _).set 1 _).set 2 _))) rfl ⟨?_, grew_set (grew_set (grew_set hg1 (Nat.le_refl _) _) (Nat.le_refl _) _) (Nat.le_refl _) _⟩
      rw [HF.out]; rfl

/-- what a field's row tells of a field -/
def specT (r : Row) : Nat × Nat × Nat := (r.2.1, r.2.2.1, r.2.2.2.1)
set_option maxRecDepth 10000 in
set_option maxHeartbeats 2000000 in
theorem specs_any (a b : List Row) (va vb : Value) (w : World) (ha : Ss w va a) (hb : Ss w vb b) (hla : a.length ≤ 1000) (hlb : b.length ≤ 1000) :
    Calls Try.prog 12 #[va, vb] w fun e w' => e = .returned (.bool (a.map specT == b.map specT)) ∧ Drew w w' := by
  obtain ⟨aa, ca, rfl, a1, a2, -, ah⟩ := ha.open
  obtain ⟨ab, cb, rfl, b1, b2, -, bh⟩ := hb.open
  clear ha hb
  by_cases hlen : a.length = b.length
  · have hl1 : ((a.length : Int) != (b.length : Int)) = false := by simp [hlen]
    have hl2 : b.length ≤ a.length ∧ a.length ≤ b.length := by omega
    have HL := Lib.hid hlen
    clear hlen
    go_enter Try.func12, Try.ntmps12
    go_wp2
    go_loopw [5] (fun i wr => (∃ k : Nat, k ≤ a.length ∧ i = .int .i64 k ∧ Hid ((a.take k).map specT = (b.take k).map specT)) ∧ Drew w wr) (fun i _ => a.length - (intOf i).toNat)
    case atStart => exact ⟨⟨0, Nat.zero_le _, rfl, rfl⟩, 0, rfl⟩
    case round =>
      obtain ⟨⟨j, hj, rfl, HT⟩, n, rfl⟩ := hrel
      by_cases hlt : j < a.length
      · obtain ⟨ba, oa, rfl, hca⟩ := ah (by omega)
        obtain ⟨bb, ob, rfl, hcb⟩ := bh (by omega)
        obtain ⟨kd, nm, ty, sl, si, hrow⟩ : ∃ kd nm ty sl si, a[j] = (kd, nm, ty, sl, si) := ⟨_, _, _, _, _, rfl⟩
        obtain ⟨kd', nm', ty', sl', si', hrow'⟩ : ∃ kd nm ty sl si, b[j] = (kd, nm, ty, sl, si) := ⟨_, _, _, _, _, rfl⟩
        have hga : ∀ i, i < 3 → (specsV a)[j * 3 + i]? = (specV (kd, nm, ty, sl, si))[i]? := fun i hi => by rw [← hrow]; exact flat_get (k := 3) (fun _ => rfl) a j hlt i hi
        have hgb : ∀ i, i < 3 → (specsV b)[j * 3 + i]? = (specV (kd', nm', ty', sl', si'))[i]? := fun i hi => by rw [← hrow']; exact flat_get (k := 3) (fun _ => rfl) b j (by omega) i hi
        have c0 := hca _ _ (hga 0 (by omega))
        have c1 := hca _ _ (hga 1 (by omega))
        have c2 := hca _ _ (hga 2 (by omega))
        have d0 := hcb _ _ (hgb 0 (by omega))
        have d1 := hcb _ _ (hgb 1 (by omega))
        have d2 := hcb _ _ (hgb 2 (by omega))
        simp only [Nat.add_zero, ← Nat.add_assoc] at c0 c1 c2 d0 d1 d2
        have hta : (a.take (j + 1)).map specT = (a.take j).map specT ++ [(nm, ty, sl)] := by rw [List.take_succ_eq_append_getElem hlt, hrow]; simp [specT]
        have htb : (b.take (j + 1)).map specT = (b.take j).map specT ++ [(nm', ty', sl')] := by rw [List.take_succ_eq_append_getElem (by omega), hrow']; simp [specT]
        have HTA := Lib.hid hta
        have HTB := Lib.hid htb
        clear hta htb hrow hrow' hga hgb hca hcb ah bh
        by_cases he : (nm, ty, sl) = (nm', ty', sl')
        · simp only [Prod.mk.injEq] at he
          obtain ⟨rfl, rfl, rfl⟩ := he
          go_wp2
          go_quiet (fail)
          go_wp2
          go_roundw
          case rel => exact ⟨⟨j + 1, by omega, by go_num, by unfold Hid; rw [HTA.out, HTB.out, HT.out]⟩, ⟨_, rfl⟩⟩
          case measure => simp [intOf]; omega
        have HNE := Lib.hid he
        by_cases h1 : (nm : Int) = nm'
        by_cases h2 : (ty : Int) = ty'
        · have h3 : ((sl : Int) == sl') = false := by
            simp only [Prod.mk.injEq] at he
            simp; omega
          have h1' : ((nm : Int) == nm') = true := by simpa using h1
          have h2' : ((ty : Int) == ty') = true := by simpa using h2
          clear he
          go_wp2
          go_quiet (fail)
          go_wp2
          go_ret
          refine ⟨ret_bool (Eq.symm ?_), Drew.more ⟨_, rfl⟩ _⟩
          rw [beq_eq_false_iff_ne]
          intro e
          have h1 : (a.take (j + 1)).map specT = (b.take (j + 1)).map specT := by rw [List.map_take, List.map_take, e]
          rw [HTA.out, HTB.out, HT.out] at h1
          have := List.append_cancel_left h1
          exact HNE.out (List.head_eq_of_cons_eq this)
        · have h1' : ((nm : Int) == nm') = true := by simpa using h1
          have h2' : ((ty : Int) == ty') = false := by simpa using h2
          clear he
          go_wp2
          go_quiet (fail)
          go_wp2
          go_ret
          refine ⟨ret_bool (Eq.symm ?_), Drew.more ⟨_, rfl⟩ _⟩
          rw [beq_eq_false_iff_ne]
          intro e
          have h1 : (a.take (j + 1)).map specT = (b.take (j + 1)).map specT := by rw [List.map_take, List.map_take, e]
          rw [HTA.out, HTB.out, HT.out] at h1
          have := List.append_cancel_left h1
          exact HNE.out (List.head_eq_of_cons_eq this)
        · have h1' : ((nm : Int) == nm') = false := by simpa using h1
          clear he
          go_wp2
          go_quiet (fail)
          go_wp2
          go_ret
          refine ⟨ret_bool (Eq.symm ?_), Drew.more ⟨_, rfl⟩ _⟩
          rw [beq_eq_false_iff_ne]
          intro e
          have h1 : (a.take (j + 1)).map specT = (b.take (j + 1)).map specT := by rw [List.map_take, List.map_take, e]
          rw [HTA.out, HTB.out, HT.out] at h1
          have := List.append_cancel_left h1
          exact HNE.out (List.head_eq_of_cons_eq this)
      · obtain rfl : j = a.length := by omega
        clear ah bh
        go_wp2
        go_ret
        refine ⟨ret_bool ?_, _, rfl⟩
        have := HT.out
        rw [List.take_length, List.take_of_length_le (by omega)] at this
        rw [this]; simp
  · have hl1 : ((a.length : Int) != (b.length : Int)) = true := by simp; omega
    have HL := Lib.hid hlen
    clear hlen ah bh
    go_enter Try.func12, Try.ntmps12
    go_wp2
    go_ret
    exact ⟨ret_bool (Eq.symm (beq_eq_false_iff_ne.2 fun e => HL.out (by have := congrArg List.length e; simpa using this))), 0, rfl⟩
end Go.Proofs.Ytciihinonoamlaa
