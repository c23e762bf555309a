/- What happens to a stream, its pieces, frames in another order, in plain words, and the plain laws of it. -/
import Derived.Test.YtoinndlialimcaaFrL
namespace Go.Proofs.Ytoinndlialimcaa
open Go Go.RowKit Go.Shelf

/-- a number by another one, from 0 on -/
def restN (n : Int) (k : Nat) : Nat := (n % (k : Int)).toNat
theorem restN_lt (n : Int) {k : Nat} (h : 0 < k) : restN n k < k := by
  unfold restN
  have h1 := Int.emod_nonneg n (show (k : Int) ≠ 0 by omega)
  have h2 := Int.emod_lt_of_pos n (show (0 : Int) < k by omega)
  omega
theorem restN_int (n : Int) {k : Nat} (h : 0 < k) : ((restN n k : Nat) : Int) = n % (k : Int) := by
  unfold restN
  have h1 := Int.emod_nonneg n (show (k : Int) ≠ 0 by omega)
  omega
theorem restN_small {n k : Nat} (h : n < k) : restN (n : Int) k = n := by
  unfold restN
  have h1 : ((n : Int) % (k : Int)) = (n : Int) := Int.emod_eq_of_lt (by omega) (by omega)
  rw [h1]; rfl
theorem restN_mod (n k : Nat) : restN (n : Int) k = n % k := by unfold restN; omega

theorem tmod_rest (n : Int) (k : Nat) (h : 0 < k) : Int.tmod (Int.tmod n k + k) k = n % (k : Int) := by
  have h1 : 0 ≤ Int.tmod n k + k := by
    have := Int.lt_tmod_of_pos n (show (0 : Int) < k by omega)
    omega
  rw [Int.tmod_eq_emod_of_nonneg h1, Int.tmod_def, show n - (k : Int) * n.tdiv k + k = n + k * (1 - n.tdiv k) by rw [Int.mul_sub]; omega, Int.add_mul_emod_self_left]
theorem tmod_bounds (n : Int) (k : Nat) (h : 0 < k) : -(k : Int) < Int.tmod n k ∧ Int.tmod n k < k := by
  exact ⟨Int.lt_tmod_of_pos n (show (0 : Int) < k by omega), Int.tmod_lt_of_pos n (show (0 : Int) < k by omega)⟩
theorem tmod_rest2 (n : Int) (k : Nat) (h : 0 < k) : (if Int.tmod n k < 0 then Int.tmod n k + k else Int.tmod n k) = n % (k : Int) := by
  refine Eq.trans ?_ (tmod_rest n k h)
  have hb := tmod_bounds n k h
  generalize Int.tmod n k = t at hb
  split
  · rw [Int.tmod_eq_of_lt (by omega) (by omega)]
  · rw [Int.tmod_eq_emod_of_nonneg (by omega), Int.add_emod_right, Int.emod_eq_of_lt (by omega) (by omega)]

/-- what happens to a stream: kind, at, n, to, bytes -/
structure Ed where
  kind : Int
  at' : Int
  n : Int
  to : Int
  bytes : List UInt8
def eAt (b : List UInt8) (e : Ed) : Nat := restN e.at' (b.length + 1)
def eN (b : List UInt8) (e : Ed) : Nat := restN e.n (b.length - eAt b e + 1)
theorem eAt_le (b : List UInt8) (e : Ed) : eAt b e ≤ b.length := by have := restN_lt e.at' (k := b.length + 1) (by omega); unfold eAt; omega
theorem eN_le (b : List UInt8) (e : Ed) : eAt b e + eN b e ≤ b.length := by
  have h := eAt_le b e
  have := restN_lt e.n (k := b.length - eAt b e + 1) (by omega); unfold eN; omega
/-- a byte with one bit turned -/
def flipB (b : List UInt8) (p j : Nat) : List UInt8 := b.modify p fun x => x ^^^ ((1 : UInt8) <<< UInt8.ofNat j)
/-- without some bytes -/
def eLeft (b : List UInt8) (e : Ed) : List UInt8 := b.take (eAt b e) ++ b.drop (eAt b e + eN b e)
def eOwn (b : List UInt8) (e : Ed) : List UInt8 := (b.drop (eAt b e)).take (eN b e)
def eTo (b : List UInt8) (e : Ed) : Nat := restN e.to ((eLeft b e).length + 1)
/-- a stream to which one thing happened -/
def oneM (b : List UInt8) (e : Ed) : List UInt8 :=
  if e.kind = 1 then flipB b (eAt b e) (restN e.to 8)
  else if e.kind = 2 then eLeft b e
  else if e.kind = 3 then b.take (eAt b e + eN b e) ++ b.drop (eAt b e)
  else if e.kind = 4 then b.take (eAt b e) ++ e.bytes.take 10000 ++ b.drop (eAt b e)
  else if e.kind = 5 then (eLeft b e).take (eTo b e) ++ eOwn b e ++ (eLeft b e).drop (eTo b e)
  else b
def doM (b : List UInt8) (l : List Ed) : List UInt8 := l.foldl (fun b e => (oneM b e).take 1048576) b
theorem doM_snoc (b : List UInt8) (l : List Ed) (e : Ed) : doM b (l ++ [e]) = (oneM (doM b l) e).take 1048576 := by simp [doM]
theorem eLeft_len (b : List UInt8) (e : Ed) : (eLeft b e).length + eN b e = b.length := by
  have := eN_le b e
  unfold eLeft; rw [List.length_append, List.length_take, List.length_drop]; omega
theorem eOwn_len (b : List UInt8) (e : Ed) : (eOwn b e).length = eN b e := by
  have := eN_le b e
  unfold eOwn; rw [List.length_take, List.length_drop]; omega
theorem oneM_len (b : List UInt8) (e : Ed) : (oneM b e).length ≤ 2 * b.length + 10000 := by
  have h1 := eAt_le b e
  have h2 := eN_le b e
  have h3 := eLeft_len b e
  have h4 := eOwn_len b e
  unfold oneM
  split
  · simp [flipB]; omega
  split
  · omega
  split
  · rw [List.length_append, List.length_take, List.length_drop]; omega
  split
  · rw [List.length_append, List.length_append, List.length_take, List.length_take, List.length_drop]; omega
  split
  · rw [List.length_append, List.length_append, List.length_take, List.length_drop]; omega
  · omega
theorem doM_len (b : List UInt8) (l : List Ed) (h : b.length ≤ 1048576) : (doM b l).length ≤ 1048576 := by
  induction l generalizing b with
  | nil => exact h
  | cons e l ih => exact ih _ (by rw [List.length_take]; omega)

/-- a bit turned twice -/
theorem flip_twice (b : List UInt8) (p j : Nat) : flipB (flipB b p j) p j = b := by
  unfold flipB
  rw [List.modify_modify_eq]
  have : ((fun x : UInt8 => x ^^^ ((1 : UInt8) <<< UInt8.ofNat j)) ∘ fun x => x ^^^ ((1 : UInt8) <<< UInt8.ofNat j)) = id := by
    funext x
    simp [UInt8.xor_assoc]
  rw [this, List.modify_id]
theorem flip_len (b : List UInt8) (p j : Nat) : (flipB b p j).length = b.length := by simp [flipB]
theorem twice_flip (b : List UInt8) (at' n bit : Int) (h : b.length ≤ 1048576) : doM b [⟨1, at', 0, bit, []⟩, ⟨1, at', n, bit, []⟩] = b := by
  simp only [doM, List.foldl_cons, List.foldl_nil, oneM, eAt]
  simp only [if_true]
  have t : (flipB b (restN at' (b.length + 1)) (restN bit 8)).take 1048576 = flipB b (restN at' (b.length + 1)) (restN bit 8) := List.take_of_length_le (by rw [flip_len]; exact h)
  rw [t, flip_len, flip_twice, List.take_of_length_le h]
theorem twice_copy (b : List UInt8) (p c : Nat) (t t' : Int) (m m' : List UInt8) (h : b.length ≤ 1000) (hp : p + c ≤ b.length) : doM b [⟨3, p, c, t, m⟩, ⟨2, p, c, t', m'⟩] = b := by
  have e1 : eAt b ⟨3, p, c, t, m⟩ = p := restN_small (by omega)
  have e2 : eN b ⟨3, p, c, t, m⟩ = c := by unfold eN; rw [e1]; exact restN_small (by omega)
  have h1 : oneM b ⟨3, p, c, t, m⟩ = b.take (p + c) ++ b.drop p := by
    unfold oneM; rw [e1, e2]; rfl
  have hl : (b.take (p + c) ++ b.drop p).length = b.length + c := by rw [List.length_append, List.length_take, List.length_drop]; omega
  have e3 : eAt (b.take (p + c) ++ b.drop p) ⟨2, p, c, t', m'⟩ = p := by unfold eAt; rw [hl]; exact restN_small (by omega)
  have e4 : eN (b.take (p + c) ++ b.drop p) ⟨2, p, c, t', m'⟩ = c := by unfold eN; rw [e3, hl]; exact restN_small (by omega)
  have h2 : oneM (b.take (p + c) ++ b.drop p) ⟨2, p, c, t', m'⟩ = b := by
    unfold oneM eLeft; rw [e3, e4]
    simp only [show ¬ ((2 : Int) = 1) by decide, if_false, if_true]
    rw [List.take_append_of_le_length (by rw [List.length_take]; omega), List.take_take, Nat.min_eq_left (by omega)]
    have : (b.take (p + c)).length = p + c := by rw [List.length_take]; omega
    rw [List.drop_append, this, List.drop_of_length_le (by rw [this]; exact Nat.le_refl _), Nat.sub_self, List.drop_zero, List.nil_append, List.take_append_drop]
  simp only [doM, List.foldl_cons, List.foldl_nil]
  have t1 : (b.take (p + c) ++ b.drop p).take 1048576 = b.take (p + c) ++ b.drop p := List.take_of_length_le (by omega)
  rw [h1, t1, h2, List.take_of_length_le (by omega)]

/-- how long the i-th piece must be -/
def cutSize (s : List Int) (n i : Nat) : Nat := if s = [] then n else (max (s.getD (i % s.length) 0) 1).toNat
/-- a stream in pieces -/
def cutF (s : List Int) : Nat → List UInt8 → Nat → List (List UInt8)
  | 0, _, _ => []
  | f + 1, l, i => if l = [] then [] else l.take (cutSize s l.length i) :: cutF s f (l.drop (cutSize s l.length i)) (i + 1)
def cutM (s : List Int) (l : List UInt8) : List (List UInt8) := cutF s l.length l 0
theorem cutSize_pos (s : List Int) (n i : Nat) (h : 0 < n) : 0 < cutSize s n i := by
  unfold cutSize; split
  · exact h
  · omega
theorem cutF_more (s : List Int) : ∀ (f : Nat) (l : List UInt8) (i : Nat), l.length ≤ f → cutF s f l i = cutF s l.length l i := by
  intro f
  induction f using Nat.strongRecOn with
  | ind f ih =>
    intro l i h
    cases f with
    | zero => have : l.length = 0 := by omega
              rw [this]
    | succ f =>
      by_cases hl : l = []
      · subst hl; simp [cutF]
      · obtain ⟨n, hn⟩ : ∃ n, l.length = n + 1 := ⟨l.length - 1, by have := List.length_pos_iff.2 hl; omega⟩
        have hp := cutSize_pos s l.length i (by omega)
        rw [hn] at hp ⊢
        simp only [cutF, hl, if_false, hn]
        by_cases he : n = f
        · rw [he]
        · rw [ih f (by omega) _ _ (by rw [List.length_drop]; omega), ih n (by omega) _ _ (by rw [List.length_drop]; omega)]
theorem cutF_step (s : List Int) (l : List UInt8) (i : Nat) (hl : l ≠ []) : cutF s l.length l i = l.take (cutSize s l.length i) :: cutF s (l.drop (cutSize s l.length i)).length (l.drop (cutSize s l.length i)) (i + 1) := by
  obtain ⟨n, hn⟩ : ∃ n, l.length = n + 1 := ⟨l.length - 1, by have := List.length_pos_iff.2 hl; omega⟩
  have hp := cutSize_pos s l.length i (by omega)
  have h1 : cutF s (n + 1) l i = l.take (cutSize s l.length i) :: cutF s n (l.drop (cutSize s l.length i)) (i + 1) := by
    simp only [cutF, hl, if_false]
  rw [hn] at h1 hp ⊢
  rw [h1, cutF_more s n _ _ (by rw [List.length_drop]; omega)]
theorem cutF_join (s : List Int) : ∀ (f : Nat) (l : List UInt8) (i : Nat), l.length ≤ f → (cutF s l.length l i).flatten = l := by
  intro f
  induction f with
  | zero => intro l i h; obtain rfl : l = [] := List.eq_nil_of_length_eq_zero (by omega); rfl
  | succ f ih =>
    intro l i h
    by_cases hl : l = []
    · subst hl; rfl
    · have hp := cutSize_pos s l.length i (List.length_pos_iff.2 hl)
      rw [cutF_step s l i hl, List.flatten_cons, ih _ _ (by rw [List.length_drop]; have := List.length_pos_iff.2 hl; omega), List.take_append_drop]
/-- each piece is as long as it must be -/
theorem cutF_len (s : List Int) (N : Nat) : ∀ (f : Nat) (l : List UInt8) (i : Nat), l.length ≤ f → (s = [] → i = 0 ∧ l.length = N) → ∀ j (hj : j < (cutF s l.length l i).length), 0 < ((cutF s l.length l i)[j]).length ∧
    ((cutF s l.length l i)[j]).length ≤ cutSize s N (i + j) ∧ (j + 1 < (cutF s l.length l i).length → ((cutF s l.length l i)[j]).length = cutSize s N (i + j)) := by
  intro f
  induction f with
  | zero => intro l i h _ j hj; obtain rfl : l = [] := List.eq_nil_of_length_eq_zero (by omega); simp [cutF] at hj
  | succ f ih =>
    intro l i h hN j hj
    by_cases hl : l = []
    · subst hl; simp [cutF] at hj
    · have hlp := List.length_pos_iff.2 hl
      have hp := cutSize_pos s l.length i hlp
      have hcs : cutSize s l.length i = cutSize s N i := by
        by_cases hs : s = []
        · rw [(hN hs).2]
        · unfold cutSize; simp only [hs, if_false]
      have e := cutF_step s l i hl
      cases j with
      | zero =>
        simp only [e, List.getElem_cons_zero, List.length_cons, List.length_take, Nat.add_zero]
        refine ⟨by omega, by omega, fun h2 => ?_⟩
        have h3 : l.drop (cutSize s l.length i) ≠ [] := by
          intro h4; rw [h4] at h2; simp [cutF] at h2
        have := List.length_pos_iff.2 h3
        rw [List.length_drop] at this
        omega
      | succ j =>
        have hj2 : j < (cutF s (l.drop (cutSize s l.length i)).length (l.drop (cutSize s l.length i)) (i + 1)).length := by
          rw [e, List.length_cons] at hj; omega
        have hN2 : s = [] → i + 1 = 0 ∧ (l.drop (cutSize s l.length i)).length = N := by
          intro hs
          have : l.drop (cutSize s l.length i) = [] := by
            unfold cutSize; rw [if_pos hs]; simp
          rw [this] at hj2; simp [cutF] at hj2
        have := ih (l.drop (cutSize s l.length i)) (i + 1) (by rw [List.length_drop]; omega) hN2 j hj2
        simp only [e, List.getElem_cons_succ, List.length_cons]
        rw [show i + (j + 1) = i + 1 + j by omega]
        exact ⟨this.1, this.2.1, fun h2 => this.2.2 (by omega)⟩
end Go.Proofs.Ytoinndlialimcaa
