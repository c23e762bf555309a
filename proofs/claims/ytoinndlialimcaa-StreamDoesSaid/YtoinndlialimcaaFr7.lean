/- rescriptref14.Few, Join; the law ResyncJunk returns true: its walk. -/
import Derived.Test.YtoinndlialimcaaFrV
namespace Go.Proofs.Ytoinndlialimcaa
open Go Go.RowKit Go.Shelf

/-- frames that are read: each with its payload's slice value -/
abbrev FA := Frm × Value
def fav (x : FA) : List Value := [.int .u8 (x.1.1.toNat : Int), x.2]
def FsR (W : World) (v : Value) (A : List FA) : Prop := Sl W v A.length 2 (A.flatMap fav) ∧ ∀ x ∈ A, Bs W x.2 x.1.2
theorem FsR.grew {W W' : World} {v : Value} {A : List FA} (h : FsR W v A) (g : Grew W W') : FsR W' v A := ⟨h.1.grew g, fun x hx => (h.2 x hx).grew g⟩
theorem FsR.open {W : World} {v : Value} {A : List FA} (h : FsR W v A) : ∃ a n c, v = .slice a n c ∧ n = A.length ∧ n ≤ c ∧ c ≤ 9223372036854775807 := by
  obtain ⟨a, c, e, h1, h2, -, -⟩ := h.1.open
  unfold maxLen at h2
  exact ⟨a, _, c, e, rfl, h1, by omega⟩
theorem FsR.cells {W : World} {a : Option Addr} {n c : Nat} {A : List FA} (h : FsR W (.slice a n c) A) : 0 < A.length → ∃ b off, a = some ⟨b, off, none⟩ ∧ ∀ j (hj : j < A.length), W.cell? ⟨b, off + j * 2, none⟩ = some (.int .u8 (A[j].1.1.toNat : Int)) ∧ W.cell? ⟨b, off + j * 2 + 1, none⟩ = some A[j].2 ∧ Bs W A[j].2 A[j].1.2 := by
  intro hl
  obtain ⟨a', c', e, _, _, _, h4⟩ := h.1.open
  cases e
  obtain ⟨b, o, rfl, hc⟩ := h4 (by omega)
  refine ⟨b, o, rfl, fun j hj => ?_⟩
  have g := fun i hi => flat_at (f := fav) (k := 2) (fun _ => rfl) A j hj i hi
  have g0 := hc (j * 2) _ (g 0 (by omega))
  have g1 := hc (j * 2 + 1) _ (g 1 (by omega))
  simp only [← Nat.add_assoc] at g0 g1
  exact ⟨g0, g1, h.2 _ (List.getElem_mem hj)⟩
def fewL (fs : List Frm) : Bool := decide (fs.length ≤ 12) && fs.all fun f => decide (f.2.length ≤ 300)

set_option maxHeartbeats 1000000 in
theorem few_any (A : List FA) (v : Value) (w : World) (h : FsR w v A) :
    Calls Try.prog 22 #[v] w fun e w' => e = .returned (.bool (fewL (A.map (·.1)))) ∧ w = w' := by
  obtain ⟨a, n, c, rfl, hn, h1, h2⟩ := h.open
  subst hn
  have HC := Lib.hid h.cells
  by_cases hl : 12 < A.length
  · have hf : fewL (A.map (·.1)) = false := by simp [fewL]; omega
    have HF := Lib.hid hf
    have hd : decide ((A.length : Int) > 12) = true := by simp; omega
    clear hf h
    go_enter Try.func22, Try.ntmps22
    go_wp2
    go_ret
    exact ⟨ret_bool HF.out.symm, rfl⟩
  have hd : decide ((A.length : Int) > 12) = false := by simp; omega
  have HL := Lib.hid hl
  clear h hl
  go_enter Try.func22, Try.ntmps22
  go_wp2
  go_loop [3] (fun i => ∃ k : Nat, k ≤ A.length ∧ i = .int .i64 k ∧ RowKit.Hid (((A.take k).all fun x => decide (x.1.2.length ≤ 300)) = true)) (fun i => A.length - (intOf i).toNat)
  case atStart => exact ⟨0, Nat.zero_le _, rfl, by show _ = _; simp⟩
  case round =>
    obtain ⟨k, hk, rfl, hI⟩ := hrel
    by_cases hlt : k < A.length
    · obtain ⟨b, o, rfl, hcl⟩ := HC.out (by omega)
      obtain ⟨x0, x1, x2⟩ := hcl k hlt
      obtain ⟨ua, un, uc, e, hun⟩ := bs_shape x2
      rw [e] at x1
      have hun' := hun.out
      have hs := List.take_succ_eq_append_getElem hlt
      have hm := List.getElem_mem hlt
      have HS := Lib.hid hs
      have HM := Lib.hid hm
      have HUN := Lib.hid hun'
      clear hcl hs hm e x2 x0 hun hun'
      by_cases e : 300 < un
      · have q1 : decide ((un : Int) > 300) = true := by simp; omega
        have HE := Lib.hid e
        clear e
        go_wp2
        go_ret
        refine ⟨ret_bool ?_, rfl⟩
        have : (A.map (·.1)).all (fun f => decide (f.2.length ≤ 300)) = false := by
          rw [List.all_eq_false]
          refine ⟨A[k].1, List.mem_map.2 ⟨_, HM.out, rfl⟩, ?_⟩
          have := HUN.out; have := HE.out; simp; omega
        unfold fewL; rw [this]; simp
      · have q1 : decide ((un : Int) > 300) = false := by simp; omega
        have HE := Lib.hid e
        clear e
        go_wp2
        go_round
        case rel => exact ⟨k + 1, by omega, by go_num, by show _ = _; rw [HS.out, List.all_append, hI.out]; have := HUN.out; have := HE.out; simp; omega⟩
        case measure => simp [intOf]; omega
    · obtain rfl : k = A.length := by omega
      rw [List.take_length] at hI
      go_wp2
      go_ret
      refine ⟨ret_bool ?_, rfl⟩
      unfold fewL
      rw [List.all_map]
      have h1 := hI.out
      have h2 := HL.out
      simp only [Function.comp_def]
      rw [h1, decide_eq_true (by rw [List.length_map]; omega)]; rfl
theorem fjoin_snoc (fs : List Frm) (f : Frm) : fjoin (fs ++ [f]) = fjoin fs ++ fput f := by simp [fjoin]
theorem fjoin_few : ∀ (fs : List Frm), (∀ f ∈ fs, f.2.length ≤ 300) → (fjoin fs).length ≤ fs.length * 309
  | [], _ => by simp [fjoin]
  | f :: fs, h => by
    have := fjoin_few fs (fun g hg => h g (List.mem_cons_of_mem _ hg))
    have h1 := h f List.mem_cons_self
    simp only [fjoin, List.flatMap_cons, List.length_append, fput_length, List.length_cons] at this ⊢
    omega
set_option maxHeartbeats 1000000 in
theorem r14join_any (A : List FA) (v : Value) (w : World) (h : FsR w v A) (hf : fewL (A.map (·.1)) = true) :
    Calls Try.prog 18 #[v] w fun e w' => ∃ v', e = .returned v' ∧ OwnB w' w.heap.size v' (fjoin (A.map (·.1))) ∧ Grew w w' := by
  obtain ⟨a, n, c, rfl, hn, h1, h2⟩ := h.open
  subst hn
  have HA := Lib.hid h
  have hall : ∀ f ∈ A.map (·.1), f.2.length ≤ 300 := by
    intro f hm
    have := (Bool.and_eq_true_iff.1 hf).2
    have := List.all_eq_true.1 this f hm
    simpa using this
  have hln : A.length ≤ 12 := by have := (Bool.and_eq_true_iff.1 hf).1; simpa using this
  have HALL := Lib.hid hall
  clear h hf hall
  go_enter Try.func18, Try.ntmps18
  go_wp2
  go_loopw [3, 4] (fun vo i wr => ∃ k : Nat, k ≤ A.length ∧ i = .int .i64 k ∧ OwnB wr w.heap.size vo (fjoin ((A.map (·.1)).take k)) ∧ Grew w wr) (fun _ i _ => A.length - (intOf i).toNat)
  case atStart => exact ⟨0, Nat.zero_le _, rfl, by simpa [fjoin] using ownB_nil _ _, Below.refl _ _⟩
  case round =>
    obtain ⟨k, hk, rfl, hown, hG⟩ := hrel
    by_cases hlt : k < A.length
    · obtain ⟨b, o, rfl, hcl⟩ := (HA.out.grew hG).cells (by omega)
      obtain ⟨x0, x1, x2⟩ := hcl k hlt
      have hlk : k < (A.map (·.1)).length := by rw [List.length_map]; exact hlt
      have hs : (A.map (·.1)).take (k + 1) = (A.map (·.1)).take k ++ [A[k].1] := by rw [List.take_succ_eq_append_getElem hlk]; simp
      have hle := HALL.out A[k].1 (List.mem_map.2 ⟨_, List.getElem_mem hlt, rfl⟩)
      have hjl := fjoin_few ((A.map (·.1)).take k) (fun f hf => HALL.out f (List.mem_of_mem_take hf))
      have hjl2 : (fjoin ((A.map (·.1)).take k)).length ≤ 4000 := by
        have : ((A.map (·.1)).take k).length ≤ 12 := by rw [List.length_take, List.length_map]; omega
        omega
      generalize A[k].1 = f at x0 x2 hs hle
      obtain ⟨ua, un, uc, e, -⟩ := bs_shape x2
      rw [e] at x1 x2
      obtain ⟨oa, on, oc, rfl, -⟩ := bs_shape (Sl.of_own hown)
      have HS := Lib.hid hs
      have HO := Lib.hid hown
      have X2 := Lib.hid x2
      have hfl : (fput f).length ≤ 309 := by rw [fput_length]; omega
      clear hcl hs e x2 hown hjl hlk
      go_wp2_with fail
      refine (r13put_any f _ _ X2.out (by omega)).mono ?_
      rintro e w1 ⟨v1, rfl, r1, g1⟩
      have s1 := Sl.of_own r1
      obtain ⟨a1, n1, c1, rfl, -⟩ := bs_shape s1
      clear r1 x0 x1
      go_wp2_with fail
      refine (join_any _ (fput f) _ _ _ (Sl.of_own (own_grew HO.out g1)) s1 (by omega)).mono ?_
      rintro e w2 ⟨v2, rfl, r2, g2⟩
      go_wp2
      have G2 := (hG.trans g1).trans g2
      go_roundw
      case rel => exact ⟨k + 1, by omega, by go_num, by rw [HS.out, fjoin_snoc]; exact own_mono r2 (hG.trans g1).size, G2⟩
      case measure => simp [intOf]; omega
    · obtain rfl : k = A.length := by omega
      rw [List.take_of_length_le (by simp)] at hown
      go_wp2
      go_ret
      exact ⟨_, rfl, hown, hG⟩
end Go.Proofs.Ytoinndlialimcaa
