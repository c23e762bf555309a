/- rescriptlaw15.small; what comes in pieces, in plain words. -/
import Derived.Test.YtigaanedkobokaaFe7
namespace Go.Proofs.Ytigaanedkobokaa
open Go Go.RowKit Go.Shelf

/-- an ask: does the stream end; a piece, and its slice value -/
structure AskF where
  fin : Bool
  bs : List UInt8
  v : Value
def askFV (a : AskF) : List Value := [.bool a.fin, a.v]
def AskFR (W : World) (v : Value) (A : List AskF) : Prop := Sl W v A.length 2 (A.flatMap askFV) ∧ ∀ a ∈ A, Bs W a.v a.bs
theorem AskFR.open {W : World} {v : Value} {A : List AskF} (h : AskFR W v A) : ∃ a n c, v = .slice a n c ∧ n = A.length ∧ n ≤ c ∧ c ≤ 9223372036854775807 := by
  obtain ⟨a, c, e, h1, h2, -, -⟩ := h.1.open
  unfold maxLen at h2
  exact ⟨a, _, c, e, rfl, h1, by omega⟩
theorem AskFR.cells {W : World} {a : Option Addr} {n c : Nat} {A : List AskF} (h : AskFR W (.slice a n c) A) : 0 < A.length → ∃ b off, a = some ⟨b, off, none⟩ ∧ ∀ j (hj : j < A.length), W.cell? ⟨b, off + j * 2, none⟩ = some (.bool A[j].fin) ∧ W.cell? ⟨b, off + j * 2 + 1, none⟩ = some A[j].v ∧ Bs W A[j].v A[j].bs := by
  intro hl
  obtain ⟨a', c', e, _, _, _, h4⟩ := h.1.open
  cases e
  obtain ⟨b, o, rfl, hc⟩ := h4 (by omega)
  refine ⟨b, o, rfl, fun j hj => ?_⟩
  have g := fun i hi => flat_at (f := askFV) (k := 2) (fun _ => rfl) A j hj i hi
  have g0 := hc (j * 2) _ (g 0 (by omega))
  have g1 := hc (j * 2 + 1) _ (g 1 (by omega))
  simp only [← Nat.add_assoc] at g0 g1
  exact ⟨g0, g1, h.2 _ (List.getElem_mem hj)⟩
def sumL (A : List AskF) : Nat := (A.map fun a => min a.bs.length 5000).sum
theorem sumL_snoc (A : List AskF) (a : AskF) : sumL (A ++ [a]) = sumL A + min a.bs.length 5000 := by simp [sumL]
theorem sumL_app (A B : List AskF) : sumL (A ++ B) = sumL A + sumL B := by simp [sumL]
def smallL (A : List AskF) : Bool := decide (A.length ≤ 40) && decide (sumL A ≤ 3000)

set_option maxHeartbeats 1000000 in
theorem small_any (A : List AskF) (v : Value) (w : World) (h : AskFR w v A) :
    Calls Try.prog 33 #[v] w fun e w' => e = .returned (.bool (smallL A)) ∧ w = w' := by
  obtain ⟨a, n, c, rfl, hn, h1, h2⟩ := h.open
  subst hn
  have HC := Lib.hid h.cells
  by_cases hl : 40 < A.length
  · have hf : smallL A = false := by simp [smallL]; omega
    have HF := Lib.hid hf
    clear hf h
    go_enter Try.func33, Try.ntmps33
    go_wp2
    go_ret
    exact ⟨ret_bool HF.out.symm, rfl⟩
  have hl' : A.length ≤ 40 := by omega
  clear h hl
  go_enter Try.func33, Try.ntmps33
  go_wp2
  go_loop [3, 4] (fun s i => ∃ k : Nat, k ≤ A.length ∧ i = .int .i64 k ∧ s = .int .i64 (sumL (A.take k) : Nat) ∧ sumL (A.take k) ≤ k * 5000) (fun _ i => A.length - (intOf i).toNat)
  case atStart => exact ⟨0, Nat.zero_le _, rfl, rfl, by simp [sumL]⟩
  case round =>
    obtain ⟨k, hk, rfl, rfl, hS⟩ := hrel
    by_cases hlt : k < A.length
    · obtain ⟨b, o, rfl, hcl⟩ := HC.out (by omega)
      obtain ⟨x0, x1, x2⟩ := hcl k hlt
      obtain ⟨ua, un, uc, e, hun⟩ := bs_shape x2
      rw [e] at x1
      have hs := sumL_snoc (A.take k) A[k]
      rw [← List.take_succ_eq_append_getElem hlt, ← hun.out] at hs
      generalize sumL (A.take k) = S at hs hS ⊢
      have hm : min un 5000 ≤ 5000 := Nat.min_le_right _ _
      have HS := Lib.hid hs
      clear hcl e x2 x0 hun hs
      go_wp2
      go_round
      case rel => exact ⟨k + 1, by omega, by go_num, by rw [HS.out]; congr 1; omega, by rw [HS.out]; omega⟩
      case measure => simp [intOf]; omega
    · obtain rfl : k = A.length := by omega
      rw [List.take_length] at hS ⊢
      have hq : decide ((sumL A : Int) ≤ 3000) = decide (sumL A ≤ 3000) := by
        by_cases h : sumL A ≤ 3000
        · rw [decide_eq_true h, decide_eq_true (by omega)]
        · rw [decide_eq_false h, decide_eq_false (by omega)]
      have hr : smallL A = decide (sumL A ≤ 3000) := by unfold smallL; rw [decide_eq_true hl']; rfl
      have HR := Lib.hid hr
      have HQ := Lib.hid hq
      clear hr hq
      go_wp2
      go_ret
      exact ⟨ret_bool (by rw [HR.out, HQ.out]), rfl⟩
/-- what both feeders know of the bytes that came -/
def fInv (B K : List UInt8) (n told : Nat) : Prop := n = (walkL false B 0).2.2 ∧ K = B.drop n ∧ told = (walkL false B 0).1.length
theorem fInv.nil : fInv [] [] 0 0 := ⟨rfl, rfl, rfl⟩
theorem fInv.le {B K : List UInt8} {n told : Nat} (h : fInv B K n told) : n ≤ B.length ∧ n + K.length = B.length := by
  obtain ⟨h1, h2, _⟩ := h
  have := (walk_from false B 0).2.1
  rw [h2, List.length_drop]; omega
theorem fInv.step {B K : List UInt8} {n told : Nat} (m : List UInt8) (h : fInv B K n told) :
    fInv (B ++ m) (fdK K m false) (fdN K m n false) (walkL false (B ++ m) 0).1.length ∧ fdOut K m n false = (walkL false (B ++ m) 0).1.drop told ∧ told ≤ (walkL false (B ++ m) 0).1.length := by
  have hle := h.le
  obtain ⟨h1, h2, h3⟩ := h
  have hw := walk_append m B 0
  rw [Nat.sub_zero, ← h1, List.drop_append_of_le_length hle.1, ← h2] at hw
  have hs := walk_shift false n (K ++ m) 0
  rw [Nat.zero_add] at hs
  rw [hs] at hw
  have e1 : (walkL false (B ++ m) 0).1 = (walkL false B 0).1 ++ shF n (walkL false (K ++ m) 0).1 := by rw [hw]; rfl
  have e2 : (walkL false (B ++ m) 0).2.2 = (walkL false (K ++ m) 0).2.2 + n := by rw [hw]
  refine ⟨⟨?_, ?_, rfl⟩, ?_, ?_⟩
  · simp only [fdN, Bool.false_eq_true, if_false]; omega
  · simp only [fdN, fdK, Bool.false_eq_true, if_false]
    have hd : K ++ m = (B ++ m).drop n := by rw [List.drop_append_of_le_length hle.1, ← h2]
    rw [hd, List.drop_drop]
  · simp only [fdOut, Bool.false_eq_true, if_false]
    rw [e1, h3, List.drop_left]
  · rw [e1, h3, List.length_append]; omega
end Go.Proofs.Ytigaanedkobokaa
