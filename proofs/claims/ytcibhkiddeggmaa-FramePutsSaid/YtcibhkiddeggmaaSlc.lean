/- Slice expressions on byte slices. -/
import Derived.Test.YtcibhkiddeggmaaByt
namespace Go.Proofs.Ytcibhkiddeggmaa
open Go Go.RowKit Go.Shelf

theorem bs_sliced {w : World} {a : Option Addr} {n c : Nat} {l : List UInt8} (h : Bs w (.slice a n c) l) (i j m : Nat) (hij : i ≤ j) (hj : j ≤ l.length) (hjm : j ≤ m) (hm : m ≤ c) : Bs w (sliced a i j m 1) ((l.drop i).take (j - i)) := by
  obtain ⟨hl, a0, c0, e, h1, h2, h3, h4⟩ := h
  cases e
  have hlen : ((l.drop i).take (j - i)).length = j - i := by rw [List.length_take, List.length_drop]; omega
  refine ⟨by simp, if m = i then a else a.map (·.add (i * 1)), m - i, by rw [hlen]; rfl, by rw [hlen]; omega, by omega, ?_, ?_⟩
  · intro hn
    split at hn
    · omega
    · cases a with
      | none => have := h3 rfl; omega
      | some ad => cases hn
  · intro ad had k u hu
    have hk : k < j - i := by
      have := (List.getElem?_eq_some_iff.1 hu).1
      rw [bv_length, hlen] at this; exact this
    rw [if_neg (by omega)] at had
    cases a with
    | none => cases had
    | some a0 =>
      cases had
      have hg : (bv l)[i + k]? = some u := by
        rw [← hu]
        simp only [bv, List.getElem?_map]
        rw [List.getElem?_take_of_lt hk, List.getElem?_drop]
      have := h4 a0 rfl (i + k) u hg
      rwa [Nat.mul_one, ← Addr.add_add] at *

set_option maxRecDepth 100000 in
/-- v[i:] -/
theorem slc_from {a : Option Addr} {c : Nat} {w : World} {l : List UInt8} (h : Bs w (.slice a l.length c) l) (i : Nat) (hi : i ≤ l.length) : ∃ a' c', (∀ W : World, (Instr.slice 22 (.slice a l.length c) (some (.int .i64 i)) none none).run Try.prog W = .ok (.slice a' (l.length - i) c') W) ∧ ∀ W, Bs W (.slice a l.length c) l → Bs W (.slice a' (l.length - i) c') (l.drop i) := by
  obtain ⟨a0, c0, e, h1, h2, -⟩ := h.open
  cases e
  refine ⟨if c = i then a else a.map (·.add (i * 1)), c - i, fun W => ?_, fun W hW => ?_⟩
  · rw [run_slice_l W _ _ _ _ Try.underlying22 .i64 i (by omega) (by omega)]
    have e1 : (sizeOf (Try.prog.elem 22)).run Try.prog W = .ok 1 W := by kernel_rfl
    rw [e1]
    simp only [Result.andThen, sliced, Int.toNat_natCast]
  · have := bs_sliced hW i l.length c hi (Nat.le_refl _) h1 (Nat.le_refl _)
    rw [List.take_of_length_le (by rw [List.length_drop]; omega)] at this
    exact this
set_option maxRecDepth 100000 in
/-- v[i:j] -/
theorem slc_span {a : Option Addr} {c : Nat} {w : World} {l : List UInt8} (h : Bs w (.slice a l.length c) l) (i j : Nat) (hi : i ≤ j) (hj : j ≤ l.length) : ∃ a' c', (∀ W : World, (Instr.slice 22 (.slice a l.length c) (some (.int .i64 i)) (some (.int .i64 j)) none).run Try.prog W = .ok (.slice a' (j - i) c') W) ∧ ∀ W, Bs W (.slice a l.length c) l → Bs W (.slice a' (j - i) c') ((l.drop i).take (j - i)) := by
  obtain ⟨a0, c0, e, h1, h2, -⟩ := h.open
  cases e
  refine ⟨if c = i then a else a.map (·.add (i * 1)), c - i, fun W => ?_, fun W hW => ?_⟩
  · rw [run_slice_lh W _ _ _ _ Try.underlying22 .i64 .i64 i j (by omega) (by omega) (by omega)]
    have e1 : (sizeOf (Try.prog.elem 22)).run Try.prog W = .ok 1 W := by kernel_rfl
    rw [e1]
    simp only [Result.andThen, sliced, Int.toNat_natCast]
  · exact bs_sliced hW i j c hi hj (by omega) (Nat.le_refl _)
set_option maxRecDepth 100000 in
/-- v[i:j:m] -/
theorem slc_full {a : Option Addr} {c : Nat} {w : World} {l : List UInt8} (h : Bs w (.slice a l.length c) l) (i j m : Nat) (hi : i ≤ j) (hj : j ≤ l.length) (hjm : j ≤ m) (hm : m ≤ c) : ∃ a', (∀ W : World, (Instr.slice 22 (.slice a l.length c) (some (.int .i64 i)) (some (.int .i64 j)) (some (.int .i64 m))).run Try.prog W = .ok (.slice a' (j - i) (m - i)) W) ∧ ∀ W, Bs W (.slice a l.length c) l → Bs W (.slice a' (j - i) (m - i)) ((l.drop i).take (j - i)) := by
  obtain ⟨a0, c0, e, h1, h2, -⟩ := h.open
  cases e
  refine ⟨if m = i then a else a.map (·.add (i * 1)), fun W => ?_, fun W hW => ?_⟩
  · rw [run_slice_lhm W _ _ _ _ Try.underlying22 .i64 .i64 .i64 i j m (by omega) (by omega) (by omega) (by omega)]
    have e1 : (sizeOf (Try.prog.elem 22)).run Try.prog W = .ok 1 W := by kernel_rfl
    rw [e1]
    simp only [Result.andThen, sliced, Int.toNat_natCast]
  · exact bs_sliced hW i j m hi hj hjm hm
end Go.Proofs.Ytcibhkiddeggmaa
