/- rescripttop.inner: contract. -/
import Derived.Test.YtoinndlialimcaaAwS
import Derived.Test.YtoinndlialimcaaStL
import Derived.Test.YtoinndlialimcaaFr7
namespace Go.Proofs.Ytoinndlialimcaa
open Go Go.RowKit Go.Shelf

/-- the byte C5 stands somewhere but at the beginning -/
def innerB (f : Frm) : Bool := ((fput f).drop 1).any fun x => x == 197
theorem inner_plain {f : Frm} (h : innerB f = false) : plainF f := by
  intro i h0 hi e
  unfold innerB at h
  rw [List.any_eq_false] at h
  have hm : (fput f)[i]'hi ∈ (fput f).drop 1 := by
    rw [List.mem_drop_iff_getElem]
    exact ⟨i - 1, by omega, by congr 1; omega⟩
  have h2 := h _ hm
  unfold byteAt at e
  rw [List.getD_eq_getElem?_getD, List.getElem?_eq_getElem hi, Option.getD_some] at e
  apply h2
  rw [beq_iff_eq]
  exact UInt8.toNat_inj.1 (by rw [e]; rfl)
set_option maxRecDepth 100000 in
set_option maxHeartbeats 4000000 in
theorem inner_any (f : Frm) (v : Value) (w : World) (hb : Bs w v f.2) (hlen : f.2.length ≤ 8192) :
    Calls Try.prog 27 #[frV f.1 v] w fun e w' => e = .returned (.bool (innerB f)) ∧ Grew w w' := by
  obtain ⟨a, c, rfl⟩ := bs_len hb
  have hl := fput_length f
  have hne : (fput f).length ≤ 9000 := by rw [hl]; omega
  have HB := Lib.hid hb
  have g0 := grew_alloc w (.cells #[.int .u8 (f.1.toNat : Int), .slice a f.2.length c] 38)
  have kb : Blk (w.alloc (.cells #[.int .u8 (f.1.toNat : Int), .slice a f.2.length c] 38)) w.heap.size 38 #[.int .u8 (f.1.toNat : Int), .slice a f.2.length c] := Blk.new _ _ _
  have G0 := Lib.hid g0
  clear hb g0 kb
  go_enter Try.func27, Try.ntmps27
  go_wp2_with fail
  refine (r13put_any f _ _ (HB.out.grew G0.out) hlen).mono ?_
  rintro e w1 ⟨v1, rfl, o1, g1⟩
  obtain ⟨P, hP⟩ : ∃ P, P = fput f := ⟨_, rfl⟩
  have hin : innerB f = (P.drop 1).any fun x => x == 197 := by rw [hP]; rfl
  rw [← hP] at o1 hne hl
  obtain ⟨a1, c1, rfl, hc1, hc2, -, hcell⟩ := (Sl.of_own o1).open
  unfold maxLen at hc2
  have HIN := Lib.hid hin
  have HC := Lib.hid hcell
  have G1 := G0.out.trans g1
  clear hin hcell hP o1
  have hl1 : 1 ≤ P.length := by omega
  clear hl
  go_wp2_with fail
  go_loop [4] (fun i => ∃ j : Nat, 1 ≤ j ∧ j ≤ P.length ∧ i = .int .i64 j ∧ RowKit.Hid (∀ t (ht : t < P.length), 1 ≤ t → t < j → P[t] ≠ 197)) (fun i => P.length - (intOf i).toNat)
  case atStart => exact ⟨1, Nat.le_refl _, hl1, rfl, Lib.hid fun t _ h1 h2 => by omega⟩
  case round =>
    obtain ⟨j, hj1, hj, rfl, hno⟩ := hrel
    by_cases hjl : j < P.length
    · obtain ⟨bb, ob, rfl, cb⟩ := HC.out (by omega)
      have y0 := cb j _ (bv_get P j hjl)
      have zj0 : (0 : Int) ≤ (j : Int) := by omega
      have zj1 : (j : Int) < (P.length : Int) := by omega
      by_cases h5 : P[j] = 197
      · have hv : ((P[j].toNat : Int) == 197) = true := by rw [h5]; rfl
        have ht : (P.drop 1).any (fun x => x == 197) = true := by
          rw [List.any_eq_true]
          refine ⟨P[j], ?_, by rw [h5]; rfl⟩
          rw [List.mem_drop_iff_getElem]
          exact ⟨j - 1, by omega, by congr 1; omega⟩
        rw [← HIN.out] at ht
        have HT := Lib.hid ht
        clear cb ht
        go_wp2
        go_ret
        exact ⟨ret_bool HT.out.symm, G1⟩
      · have hv : ((P[j].toNat : Int) == 197) = false := by
          rw [beq_eq_false_iff_ne]
          intro e
          exact h5 (UInt8.toNat_inj.1 (by show P[j].toNat = 197; omega))
        have hno2 : RowKit.Hid (∀ t (ht : t < P.length), 1 ≤ t → t < j + 1 → P[t] ≠ 197) := by
          refine Lib.hid fun t ht h1 htj => ?_
          by_cases h6 : t < j
          · exact hno.out t ht h1 h6
          · obtain rfl : t = j := by omega
            exact h5
        clear cb hno
        go_wp2
        go_round
        case rel => exact ⟨j + 1, by omega, by omega, by go_num, hno2⟩
        case measure => simp [intOf]; omega
    · obtain rfl : j = P.length := by omega
      have ht : (P.drop 1).any (fun x => x == 197) = false := by
        rw [List.any_eq_false]
        intro x hx
        rw [List.mem_drop_iff_getElem] at hx
        obtain ⟨t, ht, rfl⟩ := hx
        have := hno.out (t + 1) (by omega) (by omega) (by omega)
        simp only [beq_iff_eq]
        intro e
        apply this
        rw [← e]
        congr 1; omega
      rw [← HIN.out] at ht
      have HT := Lib.hid ht
      clear ht
      go_wp2
      go_ret
      exact ⟨ret_bool HT.out.symm, G1⟩
end Go.Proofs.Ytoinndlialimcaa
