/- The law SchemaGrows returns true: its walk. -/
import Derived.Test.YtciihinonoamlaaSchV
namespace Go.Proofs.Ytciihinonoamlaa
open Go Go.RowKit Go.Shelf

theorem quiet_eq {P : Program} {f : FuncId} {args : Array Value} {w : World} {n : Nat} {v : Value}
    (h : Calls P f args (w.drewN n) fun e w' => e = .returned v ∧ w.drewN n = w') : Calls P f args (w.drewN n) fun e w'' => e = .returned v ∧ ∃ m, w'' = w.drewN m :=
  h.mono fun _ _ ⟨he, hm⟩ => ⟨he, n, hm.symm⟩

theorem flat_get' {α : Type} {f : α → List Value} {k : Nat} (hf : ∀ x, (f x).length = k) : ∀ (l : List α) (j : Nat) (hj : j < l.length) (i : Nat), i < k → (l.flatMap f)[j * k + i]? = (f l[j])[i]?
  | x :: l, 0, _, i, hi => by
    rw [Nat.zero_mul, Nat.zero_add, List.flatMap_cons, List.getElem?_append_left (by rw [hf]; exact hi)]; rfl
  | x :: l, j + 1, hj, i, hi => by
    rw [List.flatMap_cons, List.getElem?_append_right (by rw [hf, Nat.add_mul]; omega), hf, show (j + 1) * k + i - k = j * k + i by rw [Nat.add_mul]; omega, flat_get' hf l j (by simpa using hj) i hi]; rfl
  | [], _, hj, _, _ => by simp at hj
/-- two fields of one kind stand apart -/
def apartB (a b : Row) : Bool := decide (a.2.1 < b.2.1) && !(decide (sortV a.2.2.1 = sortV b.2.2.1) && decide (a.2.2.2.1 = b.2.2.2.1))
def apartsB (L : List Row) : Bool := (List.range L.length).all fun i => (List.range i).all fun k => match L[k]?, L[i]? with | some a, some b => apartB a b | _, _ => true
def keptB (k : Nat) (L R : List Row) : Bool := L.all fun r => R.find? (isField k (r.2.1 : Int)) == some r
theorem aparts_of (v : Int) (k : Nat) : apartsB (ofKind k (rowsIn v)) = true := by
  by_cases hk : k < 11
  · have h : ∀ k, k < 11 → apartsB (ofKind k []) = true ∧ apartsB (ofKind k (rowsIn 1)) = true ∧ apartsB (ofKind k (rowsIn 2)) = true ∧ apartsB (ofKind k (rowsIn 3)) = true := by decide +kernel
    obtain ⟨h0, h1, h2, h3⟩ := h k hk
    by_cases hv : v < 1 ∨ 3 < v
    · rw [show rowsIn v = [] by unfold rowsIn; rw [if_pos hv]]; exact h0
    · have : v = 1 ∨ v = 2 ∨ v = 3 := by omega
      rcases this with rfl | rfl | rfl
      · exact h1
      · exact h2
      · exact h3
  · rw [big_kind v k hk]; rfl
where
  big_kind (v : Int) (k : Nat) (hk : ¬ k < 11) : ofKind k (rowsIn v) = [] := by
    unfold ofKind
    rw [List.filter_eq_nil_iff]
    intro r hr
    have h2 : r ∈ rowsAll := by
      unfold rowsIn at hr
      split at hr
      · cases hr
      · exact (List.mem_filter.1 hr).1
    have h3 : ∀ r ∈ rowsAll, r.1 < 11 := by decide +kernel
    have := h3 r h2
    simp; omega
theorem kept_of (v later : Int) (k : Nat) (h1 : v ≤ later) (h2 : later ≤ 3) : keptB k (ofKind k (rowsIn v)) (rowsIn later) = true := by
  by_cases hk : k < 11
  · have h : ∀ k, k < 11 → keptB k (ofKind k (rowsIn 1)) (rowsIn 1) = true ∧ keptB k (ofKind k (rowsIn 1)) (rowsIn 2) = true ∧ keptB k (ofKind k (rowsIn 1)) (rowsIn 3) = true ∧ keptB k (ofKind k (rowsIn 2)) (rowsIn 2) = true ∧ keptB k (ofKind k (rowsIn 2)) (rowsIn 3) = true ∧ keptB k (ofKind k (rowsIn 3)) (rowsIn 3) = true := by decide +kernel
    obtain ⟨a1, a2, a3, a4, a5, a6⟩ := h k hk
    by_cases hv : v < 1 ∨ 3 < v
    · rw [show rowsIn v = [] by unfold rowsIn; rw [if_pos hv]]; rfl
    · have : (v = 1 ∧ later = 1) ∨ (v = 1 ∧ later = 2) ∨ (v = 1 ∧ later = 3) ∨ (v = 2 ∧ later = 2) ∨ (v = 2 ∧ later = 3) ∨ (v = 3 ∧ later = 3) := by omega
      rcases this with ⟨rfl, rfl⟩ | ⟨rfl, rfl⟩ | ⟨rfl, rfl⟩ | ⟨rfl, rfl⟩ | ⟨rfl, rfl⟩ | ⟨rfl, rfl⟩ <;> assumption
  · rw [aparts_of.big_kind v k hk]; rfl
theorem aparts_get {L : List Row} (h : apartsB L = true) (k i : Nat) (hi : i < L.length) (hk : k < i) : L[k].2.1 < L[i].2.1 ∧ (sortV L[k].2.2.1 = sortV L[i].2.2.1 → L[k].2.2.2.1 ≠ L[i].2.2.2.1) := by
  unfold apartsB at h
  rw [List.all_eq_true] at h
  have h1 := h i (List.mem_range.2 hi)
  rw [List.all_eq_true] at h1
  have h2 := h1 k (List.mem_range.2 hk)
  rw [List.getElem?_eq_getElem (show k < L.length by omega), List.getElem?_eq_getElem hi] at h2
  simp only [apartB, Bool.and_eq_true, decide_eq_true_eq, Bool.not_eq_true', Bool.and_eq_false_iff, decide_eq_false_iff_not] at h2
  refine ⟨h2.1, fun e => ?_⟩
  rcases h2.2 with h3 | h3
  · exact absurd e h3
  · exact h3
theorem kept_get {k : Nat} {L R : List Row} (h : keptB k L R = true) (i : Nat) (hi : i < L.length) : R.find? (isField k (L[i].2.1 : Int)) = some L[i] := by
  unfold keptB at h
  rw [List.all_eq_true] at h
  simpa using h L[i] (List.getElem_mem hi)

set_option maxRecDepth 10000 in
set_option maxHeartbeats 4000000 in
theorem grows_law (kind : Nat) (ver later : Int) (w : World) : Calls Try.prog 6 #[.int .u8 kind, .int .i64 ver, .int .i64 later] w fun e w' => e = .returned (.bool true) ∧ Grew w w' := by
  have hap := aparts_of ver kind
  have hkp := kept_of ver later kind
  have hlen : (ofKind kind (rowsIn ver)).length ≤ 40 := Nat.le_trans (List.length_filter_le _ _) (rowsIn_len ver)
  have h1 := of_any kind ver
  obtain ⟨L, hL⟩ : ∃ L, ofKind kind (rowsIn ver) = L := ⟨_, rfl⟩
  simp only [hL] at hap hkp hlen h1
  have H1 := Lib.hid h1
  have HA := Lib.hid hap
  have HK := Lib.hid hkp
  clear hL h1 hap hkp
  go_enter Try.func6, Try.ntmps6
  go_wp2_with fail
  refine (live_any _).mono ?_
  rintro e w1 ⟨rfl, g1⟩
  go_wp2_with fail
  refine (H1.out _).mono ?_
  rintro e w2 ⟨v2, rfl, o2, g2⟩
  obtain ⟨a2, c2, rfl, l1, l2, l3, hcell⟩ := (Sl.of_own o2).open
  have g02 := Grew.trans g1 g2
  clear o2 g1 g2 l3
  unfold maxLen at l2
  go_wp2_with fail
  go_loopw [9] (fun i wr => ∃ k : Nat, k ≤ L.length ∧ i = .int .i64 k ∧ Grew w2 wr) (fun i _ => L.length - (intOf i).toNat)
  case atStart => exact ⟨0, by omega, rfl, Below.refl _ _⟩
  case round =>
    obtain ⟨i, hi, rfl, hg⟩ := hrel
    by_cases hlt : i < L.length
    · obtain ⟨b, off, rfl, hc⟩ := hcell (by omega)
      obtain ⟨kd, nm, ty, sl, si, hrow⟩ : ∃ kd nm ty sl si, L[i] = (kd, nm, ty, sl, si) := ⟨_, _, _, _, _, rfl⟩
      have hgi : ∀ x, x < 3 → (specsV L)[i * 3 + x]? = (specV (kd, nm, ty, sl, si))[x]? := fun x hx => by rw [← hrow]; exact flat_get' (k := 3) (fun _ => rfl) L i hlt x hx
      have c0 := (below_ext hg) _ _ (hc _ _ (hgi 0 (by omega)))
      have c1 := (below_ext hg) _ _ (hc _ _ (hgi 1 (by omega)))
      have c2 := (below_ext hg) _ _ (hc _ _ (hgi 2 (by omega)))
      simp only [Nat.add_zero, ← Nat.add_assoc] at c0 c1 c2
      have HROW := Lib.hid hrow
      have HC := Lib.hid hc
      have HCE := Lib.hid hcell
      clear hrow hgi hc hcell
      have inner : ∀ W, Grew wr W → True := fun _ _ => trivial
      clear inner
      by_cases hgu : ver ≤ later ∧ later ≤ 3
      case' pos =>
        obtain ⟨hg1, hg2⟩ := hgu
        have hf := kept_get (HK.out hg1 hg2) i hlt
        rw [HROW.out] at hf
        have HF := Lib.hid hf
        clear hf
        go_wp2_with fail
        refine (find_any kind later nm _).mono ?_
        rintro e w3 ⟨rfl, g3⟩
        rw [HF.out]
        simp only [foundV, specV]
        have gx : Grew wr (w3.alloc (.cells #[.int .i64 nm, .int .i64 ty, .int .i64 sl] 28)) := Grew.trans g3 (grew_alloc _ _)
        have hx := Blk.new w3 28 #[.int .i64 nm, .int .i64 ty, .int .i64 sl]
        have x0 := hx.cell 0
        have x1 := hx.cell 1
        have x2 := hx.cell 2
        simp at x0 x1 x2
        replace c0 := (below_ext gx) _ _ c0
        replace c1 := (below_ext gx) _ _ c1
        replace c2 := (below_ext gx) _ _ c2
        replace hg := Grew.trans hg gx
        clear hx gx g3 HF
        go_wp2
        go_quiet (fail)
        replace hg := Grew.trans hg (Drew.grew ⟨nq, rfl⟩)
        go_wp2
      case' neg =>
        have hgu' : ver ≤ later → ¬ later ≤ 3 := fun a b => hgu ⟨a, b⟩
        clear hgu
        by_cases hg1 : ver ≤ later
        case' pos => have hg2 := hgu' hg1
        all_goals
          clear hgu'
          go_wp2
      all_goals
        go_loopw [12] (fun j wx => ∃ k : Nat, k ≤ i ∧ j = .int .i64 k ∧ Grew w2 wx) (fun j _ => i - (intOf j).toNat)
        case atStart => exact ⟨0, by omega, rfl, hg⟩
        case round =>
          obtain ⟨k, hk, rfl, hgx⟩ := hrel
          by_cases hlk : k < i
          · obtain ⟨kd', nm', ty', sl', si', hrow'⟩ : ∃ kd nm ty sl si, L[k] = (kd, nm, ty, sl, si) := ⟨_, _, _, _, _, rfl⟩
            have hgk : ∀ x, x < 3 → (specsV L)[k * 3 + x]? = (specV (kd', nm', ty', sl', si'))[x]? := fun x hx => by rw [← hrow']; exact flat_get' (k := 3) (fun _ => rfl) L k (by omega) x hx
            have hgi : ∀ x, x < 3 → (specsV L)[i * 3 + x]? = (specV (kd, nm, ty, sl, si))[x]? := fun x hx => by rw [← HROW.out]; exact flat_get' (k := 3) (fun _ => rfl) L i hlt x hx
            have e0 := (below_ext hgx) _ _ (HC.out _ _ (hgi 0 (by omega)))
            have e1 := (below_ext hgx) _ _ (HC.out _ _ (hgi 1 (by omega)))
            have e2 := (below_ext hgx) _ _ (HC.out _ _ (hgi 2 (by omega)))
            have d0 := (below_ext hgx) _ _ (HC.out _ _ (hgk 0 (by omega)))
            have d1 := (below_ext hgx) _ _ (HC.out _ _ (hgk 1 (by omega)))
            have d2 := (below_ext hgx) _ _ (HC.out _ _ (hgk 2 (by omega)))
            simp only [Nat.add_zero, ← Nat.add_assoc] at e0 e1 e2 d0 d1 d2
            have hapk := aparts_get HA.out k i hlt hlk
            rw [HROW.out, hrow'] at hapk
            simp only at hapk
            obtain ⟨ap1, ap2⟩ := hapk
            have hd : decide (nm ≤ nm') = false := by simpa using ap1
            clear ap1 hrow' hgk hgi
            by_cases hs : sortV ty' = sortV ty
            · have hs1 : (sortV ty' == sortV ty) = true := by simpa using hs
              have hs2 : ((sl' : Int) == (sl : Int)) = false := by have := ap2 hs; simp; omega
              clear ap2 hs
              go_wp2
              go_quiet ((go_at_call 21; exact quiet_eq (sort_any _ _)))
              go_wp2
              go_roundw
              case rel => exact ⟨k + 1, by omega, by go_num, Grew.trans hgx (Drew.grew ⟨_, rfl⟩)⟩
              case measure => simp [intOf]; omega
            · have hs1 : (sortV ty' == sortV ty) = false := by simpa using hs
              clear ap2 hs
              go_wp2
              go_quiet ((go_at_call 21; exact quiet_eq (sort_any _ _)))
              go_wp2
              go_roundw
              case rel => exact ⟨k + 1, by omega, by go_num, Grew.trans hgx (Drew.grew ⟨_, rfl⟩)⟩
              case measure => simp [intOf]; omega
          · obtain rfl : k = i := by omega
            go_wp2
            go_roundw
            case rel => exact ⟨k + 1, by omega, by go_num, hgx⟩
            case measure => simp [intOf]; omega
    · obtain rfl : i = L.length := by omega
      clear hcell
      go_wp2
      go_ret
      exact ⟨rfl, Grew.trans g02 hg⟩
end Go.Proofs.Ytciihinonoamlaa
