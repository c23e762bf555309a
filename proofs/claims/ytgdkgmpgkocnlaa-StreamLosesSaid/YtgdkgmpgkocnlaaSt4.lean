/- The law StreamFrames returns true: its walk. -/
import Derived.Test.YtgdkgmpgkocnlaaOps
import Derived.Test.YtgdkgmpgkocnlaaSt1
namespace Go.Proofs.Ytgdkgmpgkocnlaa
open Go Go.RowKit Go.Shelf

/-- the first frame that is too long among the first k, or -1 -/
def longI (fs : List Frm) (k : Nat) : Int := match longAt (fs.take k) with
  | some i => (i : Nat)
  | none => -1
theorem longAt_snoc (fs : List Frm) (f : Frm) : longAt (fs ++ [f]) = (longAt fs).or (if 8192 < f.2.length then some fs.length else none) := by
  unfold longAt
  rw [List.findIdx?_append]
  congr 1
  by_cases h : 8192 < f.2.length
  · simp [h]
  · simp [h]
theorem longI_step {fs : List Frm} {k : Nat} (hk : k < fs.length) : longI fs (k + 1) = if longI fs k < 0 ∧ 8192 < (fs[k]).2.length then (k : Int) else longI fs k := by
  unfold longI
  rw [List.take_succ_eq_append_getElem hk, longAt_snoc]
  have hl : (fs.take k).length = k := by rw [List.length_take]; omega
  rw [hl]
  cases h : longAt (fs.take k) with
  | some i => simp; omega
  | none =>
    by_cases h2 : 8192 < (fs[k]).2.length
    · simp [h2]
    · simp [h2]
theorem framesM_of {fs : List Frm} : framesM fs = if longI fs fs.length < 0 then (fjoin fs, 0, 0) else ([], 2, (longI fs fs.length).toNat) := by
  unfold framesM longI
  rw [List.take_length]
  cases longAt fs with
  | some i => simp
  | none => simp
theorem longI_none {fs : List Frm} (h : longI fs fs.length < 0) : ∀ f ∈ fs, f.2.length ≤ 8192 := by
  unfold longI at h
  rw [List.take_length] at h
  intro f hf
  cases e : longAt fs with
  | some i => rw [e] at h; simp at h; omega
  | none =>
    unfold longAt at e
    rw [List.findIdx?_eq_none_iff] at e
    have := e f hf
    simpa using this
set_option maxHeartbeats 1000000 in
theorem r14join8_any (A : List FA) (v : Value) (w : World) (h : FsR w v A) (hall : ∀ f ∈ A.map (·.1), f.2.length ≤ 8192) (hln : A.length ≤ 12) :
    Calls Try.prog 6 #[v] w fun e w' => ∃ v', e = .returned v' ∧ OwnB w' w.heap.size v' (fjoin (A.map (·.1))) ∧ Grew w w' := by
  obtain ⟨a, n, c, rfl, hn, h1, h2⟩ := h.open
  subst hn
  have HA := Lib.hid h
  have HALL := Lib.hid hall
  clear h hall
  go_enter Try.func6, Try.ntmps6
  go_wp2
  go_loopw [3, 4] (fun vo i wr => ∃ k : Nat, k ≤ A.length ∧ i = .int .i64 k ∧ OwnB wr w.heap.size vo (fjoin ((A.map (·.1)).take k)) ∧ Grew w wr) (fun _ i _ => A.length - (intOf i).toNat)
  case atStart => exact ⟨0, Nat.zero_le _, rfl, by simpa [fjoin] using ownB_nil _ _, Below.refl _ _⟩
  case round =>
    obtain ⟨k, hk, rfl, hown, hG⟩ := hrel
    by_cases hlt : k < A.length
    · obtain ⟨b, o, rfl, hcl⟩ := (HA.out.grew hG).cells (by omega)
      obtain ⟨x0, x1, x2⟩ := hcl k hlt
      have hlk : k < (A.map (·.1)).length := by rw [List.length_map]; exact hlt
      have hs : (A.map (·.1)).take (k + 1) = (A.map (·.1)).take k ++ [A[k].1] := by rw [List.take_succ_eq_append_getElem hlk]; simp
      have hle := HALL.out A[k].1 (List.mem_map.2 ⟨_, List.getElem_mem hlt, rfl⟩)
      have hjl := fjoin_most ((A.map (·.1)).take k) (fun f hf => HALL.out f (List.mem_of_mem_take hf))
      have hjl2 : (fjoin ((A.map (·.1)).take k)).length ≤ 100000 := by
        have : ((A.map (·.1)).take k).length ≤ 12 := by rw [List.length_take, List.length_map]; omega
        omega
      generalize A[k].1 = f at x0 x2 hs hle
      obtain ⟨ua, un, uc, e, -⟩ := bs_shape x2
      rw [e] at x1 x2
      obtain ⟨oa, on, oc, rfl, -⟩ := bs_shape (Sl.of_own hown)
      have HS := Lib.hid hs
      have HO := Lib.hid hown
      have X2 := Lib.hid x2
      have hfl : (fput f).length ≤ 8201 := by rw [fput_length]; omega
      clear hcl hs e x2 hown hjl hlk
      go_wp2_with fail
      refine (r13put_any f _ _ X2.out (by omega)).mono ?_
      rintro e w1 ⟨v1, rfl, r1, g1⟩
      have s1 := Sl.of_own r1
      obtain ⟨a1, n1, c1, rfl, -⟩ := bs_shape s1
      clear r1 x0 x1
      go_wp2_with fail
      refine (join_any _ (fput f) _ _ _ (Sl.of_own (own_grew HO.out g1)) s1 (by omega)).mono ?_
      rintro e w2 ⟨v2, rfl, r2, g2⟩
      go_wp2
      have G2 := (hG.trans g1).trans g2
      go_roundw
      case rel => exact ⟨k + 1, by omega, by go_num, by rw [HS.out, fjoin_snoc]; exact own_mono r2 (hG.trans g1).size, G2⟩
      case measure => simp [intOf]; omega
    · obtain rfl : k = A.length := by omega
      rw [List.take_of_length_le (by simp)] at hown
      go_wp2
      go_ret
      exact ⟨_, rfl, hown, hG⟩
end Go.Proofs.Ytgdkgmpgkocnlaa
