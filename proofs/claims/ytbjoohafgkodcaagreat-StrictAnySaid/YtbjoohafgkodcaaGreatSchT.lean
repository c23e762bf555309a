/- The reference of layer 8: Find, Specs: contracts. -/
import Derived.Test.YtbjoohafgkodcaaGreatSchS
namespace Go.Proofs.YtbjoohafgkodcaaGreat
open Go Go.RowKit Go.Shelf

theorem find_ofKind (kind : Nat) (num : Int) (l : List Row) : (ofKind kind l).find? (fun r => (r.2.1 : Int) == num) = l.find? (isField kind num) := by
  unfold ofKind
  rw [List.find?_filter]
  congr 1
  funext r
  simp only [isField]
  cases h1 : (r.1 == kind) <;> cases h2 : ((r.2.1 : Int) == num) <;> simp_all

theorem results_cell1_tmp {P : Program} {fn : Func} {p u : Tmp} {t1 : TypeId} (h : fn.results = #[.cell p t1, .tmp u]) (tmps : Array Value) (w : World) (a1 : Addr) (v1 v2 : Value)
    (h1 : tmps.getD p undef = .pointer (some a1)) (h2 : tmps.getD u undef = v2) (l1 : (loadVar t1 a1).run P w = .ok v1 w) :
    (results fn tmps).run P w = .ok (.tuple #[v1, v2]) w := by
  have h1' : tmps[p]?.getD undef = .pointer (some a1) := by simpa using h1
  have h2' : tmps[u]?.getD undef = v2 := by simpa using h2
  simp [results, h, h1', h2', asAddr, l1]

set_option maxRecDepth 10000 in
set_option maxHeartbeats 2000000 in
theorem rfind_any (kind : Nat) (ver num : Int) (w : World) : Calls Tryz.prog 72 #[.int .u8 kind, .int .i64 ver, .int .i64 num] w fun e w' => e = .returned (.tuple (foundV ((rowsIn ver).find? (isField kind num)))) ∧ Grew w w' := by
  rw [← find_ofKind]
  have hlen : (ofKind kind (rowsIn ver)).length ≤ 40 := Nat.le_trans (List.length_filter_le _ _) (rowsIn_len ver)
  obtain ⟨L, hL⟩ : ∃ L, ofKind kind (rowsIn ver) = L := ⟨_, rfl⟩
  have hc := rof_any kind ver
  rw [hL] at hlen ⊢
  simp only [hL] at hc
  have HC := Lib.hid hc
  clear hL hc
  go_enter Tryz.func72, Tryz.ntmps72
  go_wp2_with fail
  refine (HC.out _).mono ?_
  rintro e w1 ⟨v, rfl, hs, hg⟩
  obtain ⟨a, c, rfl, h1, h2, h3, h4⟩ := (Sl.of_own hs).open
  have hb := (Blk.new w 82 #[.int .i64 0, .int .i64 0, .int .i64 0]).grew hg
  have hg1 : Grew w w1 := Below.trans ((Below.refl _ _).alloc (Nat.le_refl _) _) (hg.mono (by simp))
  clear h3 hs HC hg
  have z0 := hb.cell 0
  have z1 := hb.cell 1
  have z2 := hb.cell 2
  simp at z0 z1 z2
  have f0 := hb.frozen 0
  have f1 := hb.frozen 1
  have f2 := hb.frozen 2
  go_wp2_with fail
  go_loop [9] (fun i => ∃ j : Nat, j ≤ L.length ∧ i = .int .i64 j ∧ Hid ((L.take j).find? (fun r => (r.2.1 : Int) == num) = none)) (fun i => L.length - (intOf i).toNat)
  case atStart => exact ⟨0, Nat.zero_le _, rfl, rfl⟩
  case round =>
    obtain ⟨j, hj, rfl, HN⟩ := hrel
    by_cases hlt : j < L.length
    · obtain ⟨b, off, rfl, hcell⟩ := h4 (by omega)
      obtain ⟨kd, nm, ty, sl, si, hrow⟩ : ∃ kd nm ty sl si, L[j] = (kd, nm, ty, sl, si) := ⟨_, _, _, _, _, rfl⟩
      have hget : ∀ i, i < 3 → (specsV L)[j * 3 + i]? = (specV (kd, nm, ty, sl, si))[i]? := fun i hi => by rw [← hrow]; exact flat_get (k := 3) (fun _ => rfl) L j hlt i hi
      have c0 := hcell _ _ (hget 0 (by omega))
      have c1 := hcell _ _ (hget 1 (by omega))
      have c2 := hcell _ _ (hget 2 (by omega))
      simp only [Nat.add_zero, ← Nat.add_assoc] at c0 c1 c2
      have htk : L.take (j + 1) = L.take j ++ [L[j]] := List.take_succ_eq_append_getElem hlt
      rw [hrow] at htk
      clear hget hcell h4
      by_cases hn : (nm : Int) = num
      · subst hn
        have hf : L.find? (fun r => (r.2.1 : Int) == (nm : Int)) = some (kd, nm, ty, sl, si) := by
          refine find_prefix (List.take_prefix (j + 1) L) ?_
          rw [htk, List.find?_append, HN.out]; simp
        have HF := Lib.hid hf
        clear hf htk hrow
        go_wp2
        refine bodyPost_ret (results_cell1_tmp rfl _ _ ⟨w.heap.size, 0, none⟩ _ _ rfl rfl (loadVar_spec _ _ _ rfl (((hb.set 0 _).set 1 _).set 2 _))) rfl ⟨?_, grew_set (grew_set (grew_set hg1 (Nat.le_refl _) _) (Nat.le_refl _) _) (Nat.le_refl _) _⟩
        rw [HF.out]; rfl
      · have hn2 : ((nm : Int) == num) = false := by simpa using hn
        have hf : (L.take (j + 1)).find? (fun r => (r.2.1 : Int) == num) = none := by rw [htk, List.find?_append, HN.out]; simp [hn]
        have HF := Lib.hid hf
        clear hf htk hrow
        go_wp2
        go_round
        case rel => exact ⟨j + 1, by omega, by go_num, HF⟩
        case measure => simp [intOf]; omega
    · obtain rfl : j = L.length := by omega
      have HF := Lib.hid HN.out
      rw [List.take_length] at HF
      clear HN h4
      go_wp2
      refine bodyPost_ret (results_cell1_tmp rfl _ _ ⟨w.heap.size, 0, none⟩ _ _ rfl rfl (loadVar_spec _ _ _ rfl (((hb.set 0 _).set 1 _).set 2 _))) rfl ⟨?_, grew_set (grew_set (grew_set hg1 (Nat.le_refl _) _) (Nat.le_refl _) _) (Nat.le_refl _) _⟩
      rw [HF.out]; rfl

/-- what a field's row tells of a field -/
def specT (r : Row) : Nat × Nat × Nat := (r.2.1, r.2.2.1, r.2.2.2.1)
end Go.Proofs.YtbjoohafgkodcaaGreat
