/- Plain laws of streams of frames: frames that are lost, copied or moved; bytes of one frame lost; junk between frames. ; What happens to a stream, its pieces, frames in another order, in plain words, and the plain laws of it. -/
import Derived.Test.YtbjoohafgkodcaaGreatFrL
namespace Go.Proofs.YtbjoohafgkodcaaGreat
open Go Go.RowKit Go.Shelf

/-- a number by another one, from 0 on -/
def restN (n : Int) (k : Nat) : Nat := (n % (k : Int)).toNat
theorem restN_lt (n : Int) {k : Nat} (h : 0 < k) : restN n k < k := by
  unfold restN
  have h1 := Int.emod_nonneg n (show (k : Int) ≠ 0 by omega)
  have h2 := Int.emod_lt_of_pos n (show (0 : Int) < k by omega)
  omega
theorem restN_int (n : Int) {k : Nat} (h : 0 < k) : ((restN n k : Nat) : Int) = n % (k : Int) := by
  unfold restN
  have h1 := Int.emod_nonneg n (show (k : Int) ≠ 0 by omega)
  omega
theorem restN_small {n k : Nat} (h : n < k) : restN (n : Int) k = n := by
  unfold restN
  have h1 : ((n : Int) % (k : Int)) = (n : Int) := Int.emod_eq_of_lt (by omega) (by omega)
  rw [h1]; rfl
theorem restN_mod (n k : Nat) : restN (n : Int) k = n % k := by unfold restN; omega

theorem tmod_rest (n : Int) (k : Nat) (h : 0 < k) : Int.tmod (Int.tmod n k + k) k = n % (k : Int) := by
  have h1 : 0 ≤ Int.tmod n k + k := by
    have := Int.lt_tmod_of_pos n (show (0 : Int) < k by omega)
    omega
  rw [Int.tmod_eq_emod_of_nonneg h1, Int.tmod_def, show n - (k : Int) * n.tdiv k + k = n + k * (1 - n.tdiv k) by rw [Int.mul_sub]; omega, Int.add_mul_emod_self_left]
theorem tmod_bounds (n : Int) (k : Nat) (h : 0 < k) : -(k : Int) < Int.tmod n k ∧ Int.tmod n k < k := by
  exact ⟨Int.lt_tmod_of_pos n (show (0 : Int) < k by omega), Int.tmod_lt_of_pos n (show (0 : Int) < k by omega)⟩
theorem tmod_rest2 (n : Int) (k : Nat) (h : 0 < k) : (if Int.tmod n k < 0 then Int.tmod n k + k else Int.tmod n k) = n % (k : Int) := by
  refine Eq.trans ?_ (tmod_rest n k h)
  have hb := tmod_bounds n k h
  generalize Int.tmod n k = t at hb
  split
  · rw [Int.tmod_eq_of_lt (by omega) (by omega)]
  · rw [Int.tmod_eq_emod_of_nonneg (by omega), Int.add_emod_right, Int.emod_eq_of_lt (by omega) (by omega)]

/-- what happens to a stream: kind, at, n, to, bytes -/
structure Ed where
  kind : Int
  at' : Int
  n : Int
  to : Int
  bytes : List UInt8
def eAt (b : List UInt8) (e : Ed) : Nat := restN e.at' (b.length + 1)
def eN (b : List UInt8) (e : Ed) : Nat := restN e.n (b.length - eAt b e + 1)
theorem eAt_le (b : List UInt8) (e : Ed) : eAt b e ≤ b.length := by have := restN_lt e.at' (k := b.length + 1) (by omega); unfold eAt; omega
theorem eN_le (b : List UInt8) (e : Ed) : eAt b e + eN b e ≤ b.length := by
  have h := eAt_le b e
  have := restN_lt e.n (k := b.length - eAt b e + 1) (by omega); unfold eN; omega
/-- a byte with one bit turned -/
def flipB (b : List UInt8) (p j : Nat) : List UInt8 := b.modify p fun x => x ^^^ ((1 : UInt8) <<< UInt8.ofNat j)
/-- without some bytes -/
def eLeft (b : List UInt8) (e : Ed) : List UInt8 := b.take (eAt b e) ++ b.drop (eAt b e + eN b e)
def eOwn (b : List UInt8) (e : Ed) : List UInt8 := (b.drop (eAt b e)).take (eN b e)
def eTo (b : List UInt8) (e : Ed) : Nat := restN e.to ((eLeft b e).length + 1)
/-- a stream to which one thing happened -/
def oneM (b : List UInt8) (e : Ed) : List UInt8 :=
  if e.kind = 1 then flipB b (eAt b e) (restN e.to 8)
  else if e.kind = 2 then eLeft b e
  else if e.kind = 3 then b.take (eAt b e + eN b e) ++ b.drop (eAt b e)
  else if e.kind = 4 then b.take (eAt b e) ++ e.bytes.take 10000 ++ b.drop (eAt b e)
  else if e.kind = 5 then (eLeft b e).take (eTo b e) ++ eOwn b e ++ (eLeft b e).drop (eTo b e)
  else b
def doM (b : List UInt8) (l : List Ed) : List UInt8 := l.foldl (fun b e => (oneM b e).take 1048576) b
theorem doM_snoc (b : List UInt8) (l : List Ed) (e : Ed) : doM b (l ++ [e]) = (oneM (doM b l) e).take 1048576 := by simp [doM]
theorem eLeft_len (b : List UInt8) (e : Ed) : (eLeft b e).length + eN b e = b.length := by
  have := eN_le b e
  unfold eLeft; rw [List.length_append, List.length_take, List.length_drop]; omega
theorem eOwn_len (b : List UInt8) (e : Ed) : (eOwn b e).length = eN b e := by
  have := eN_le b e
  unfold eOwn; rw [List.length_take, List.length_drop]; omega
theorem oneM_len (b : List UInt8) (e : Ed) : (oneM b e).length ≤ 2 * b.length + 10000 := by
  have h1 := eAt_le b e
  have h2 := eN_le b e
  have h3 := eLeft_len b e
  have h4 := eOwn_len b e
  unfold oneM
  split
  · simp [flipB]; omega
  split
  · omega
  split
  · rw [List.length_append, List.length_take, List.length_drop]; omega
  split
  · rw [List.length_append, List.length_append, List.length_take, List.length_take, List.length_drop]; omega
  split
  · rw [List.length_append, List.length_append, List.length_take, List.length_drop]; omega
  · omega
theorem doM_len (b : List UInt8) (l : List Ed) (h : b.length ≤ 1048576) : (doM b l).length ≤ 1048576 := by
  induction l generalizing b with
  | nil => exact h
  | cons e l ih => exact ih _ (by rw [List.length_take]; omega)

/-- a bit turned twice -/
theorem flip_twice (b : List UInt8) (p j : Nat) : flipB (flipB b p j) p j = b := by
  unfold flipB
  rw [List.modify_modify_eq]
  have : ((fun x : UInt8 => x ^^^ ((1 : UInt8) <<< UInt8.ofNat j)) ∘ fun x => x ^^^ ((1 : UInt8) <<< UInt8.ofNat j)) = id := by
    funext x
    simp [UInt8.xor_assoc]
  rw [this, List.modify_id]
theorem flip_len (b : List UInt8) (p j : Nat) : (flipB b p j).length = b.length := by simp [flipB]
theorem twice_flip (b : List UInt8) (at' n bit : Int) (h : b.length ≤ 1048576) : doM b [⟨1, at', 0, bit, []⟩, ⟨1, at', n, bit, []⟩] = b := by
  simp only [doM, List.foldl_cons, List.foldl_nil, oneM, eAt]
  simp only [if_true]
  have t : (flipB b (restN at' (b.length + 1)) (restN bit 8)).take 1048576 = flipB b (restN at' (b.length + 1)) (restN bit 8) := List.take_of_length_le (by rw [flip_len]; exact h)
  rw [t, flip_len, flip_twice, List.take_of_length_le h]
theorem twice_copy (b : List UInt8) (p c : Nat) (t t' : Int) (m m' : List UInt8) (h : b.length ≤ 1000) (hp : p + c ≤ b.length) : doM b [⟨3, p, c, t, m⟩, ⟨2, p, c, t', m'⟩] = b := by
  have e1 : eAt b ⟨3, p, c, t, m⟩ = p := restN_small (by omega)
  have e2 : eN b ⟨3, p, c, t, m⟩ = c := by unfold eN; rw [e1]; exact restN_small (by omega)
  have h1 : oneM b ⟨3, p, c, t, m⟩ = b.take (p + c) ++ b.drop p := by
    unfold oneM; rw [e1, e2]; rfl
  have hl : (b.take (p + c) ++ b.drop p).length = b.length + c := by rw [List.length_append, List.length_take, List.length_drop]; omega
  have e3 : eAt (b.take (p + c) ++ b.drop p) ⟨2, p, c, t', m'⟩ = p := by unfold eAt; rw [hl]; exact restN_small (by omega)
  have e4 : eN (b.take (p + c) ++ b.drop p) ⟨2, p, c, t', m'⟩ = c := by unfold eN; rw [e3, hl]; exact restN_small (by omega)
  have h2 : oneM (b.take (p + c) ++ b.drop p) ⟨2, p, c, t', m'⟩ = b := by
    unfold oneM eLeft; rw [e3, e4]
    simp only [show ¬ ((2 : Int) = 1) by decide, if_false, if_true]
    rw [List.take_append_of_le_length (by rw [List.length_take]; omega), List.take_take, Nat.min_eq_left (by omega)]
    have : (b.take (p + c)).length = p + c := by rw [List.length_take]; omega
    rw [List.drop_append, this, List.drop_of_length_le (by rw [this]; exact Nat.le_refl _), Nat.sub_self, List.drop_zero, List.nil_append, List.take_append_drop]
  simp only [doM, List.foldl_cons, List.foldl_nil]
  have t1 : (b.take (p + c) ++ b.drop p).take 1048576 = b.take (p + c) ++ b.drop p := List.take_of_length_le (by omega)
  rw [h1, t1, h2, List.take_of_length_le (by omega)]

/-- how long the i-th piece must be -/
def cutSize (s : List Int) (n i : Nat) : Nat := if s = [] then n else (max (s.getD (i % s.length) 0) 1).toNat
/-- a stream in pieces -/
def cutF (s : List Int) : Nat → List UInt8 → Nat → List (List UInt8)
  | 0, _, _ => []
  | f + 1, l, i => if l = [] then [] else l.take (cutSize s l.length i) :: cutF s f (l.drop (cutSize s l.length i)) (i + 1)
def cutM (s : List Int) (l : List UInt8) : List (List UInt8) := cutF s l.length l 0
theorem cutSize_pos (s : List Int) (n i : Nat) (h : 0 < n) : 0 < cutSize s n i := by
  unfold cutSize; split
  · exact h
  · omega
theorem cutF_more (s : List Int) : ∀ (f : Nat) (l : List UInt8) (i : Nat), l.length ≤ f → cutF s f l i = cutF s l.length l i := by
  intro f
  induction f using Nat.strongRecOn with
  | ind f ih =>
    intro l i h
    cases f with
    | zero => have : l.length = 0 := by omega
              rw [this]
    | succ f =>
      by_cases hl : l = []
      · subst hl; simp [cutF]
      · obtain ⟨n, hn⟩ : ∃ n, l.length = n + 1 := ⟨l.length - 1, by have := List.length_pos_iff.2 hl; omega⟩
        have hp := cutSize_pos s l.length i (by omega)
        rw [hn] at hp ⊢
        simp only [cutF, hl, if_false, hn]
        by_cases he : n = f
        · rw [he]
        · rw [ih f (by omega) _ _ (by rw [List.length_drop]; omega), ih n (by omega) _ _ (by rw [List.length_drop]; omega)]
theorem cutF_step (s : List Int) (l : List UInt8) (i : Nat) (hl : l ≠ []) : cutF s l.length l i = l.take (cutSize s l.length i) :: cutF s (l.drop (cutSize s l.length i)).length (l.drop (cutSize s l.length i)) (i + 1) := by
  obtain ⟨n, hn⟩ : ∃ n, l.length = n + 1 := ⟨l.length - 1, by have := List.length_pos_iff.2 hl; omega⟩
  have hp := cutSize_pos s l.length i (by omega)
  have h1 : cutF s (n + 1) l i = l.take (cutSize s l.length i) :: cutF s n (l.drop (cutSize s l.length i)) (i + 1) := by
    simp only [cutF, hl, if_false]
  rw [hn] at h1 hp ⊢
  rw [h1, cutF_more s n _ _ (by rw [List.length_drop]; omega)]
theorem cutF_join (s : List Int) : ∀ (f : Nat) (l : List UInt8) (i : Nat), l.length ≤ f → (cutF s l.length l i).flatten = l := by
  intro f
  induction f with
  | zero => intro l i h; obtain rfl : l = [] := List.eq_nil_of_length_eq_zero (by omega); rfl
  | succ f ih =>
    intro l i h
    by_cases hl : l = []
    · subst hl; rfl
    · have hp := cutSize_pos s l.length i (List.length_pos_iff.2 hl)
      rw [cutF_step s l i hl, List.flatten_cons, ih _ _ (by rw [List.length_drop]; have := List.length_pos_iff.2 hl; omega), List.take_append_drop]
/-- each piece is as long as it must be -/
theorem cutF_len (s : List Int) (N : Nat) : ∀ (f : Nat) (l : List UInt8) (i : Nat), l.length ≤ f → (s = [] → i = 0 ∧ l.length = N) → ∀ j (hj : j < (cutF s l.length l i).length), 0 < ((cutF s l.length l i)[j]).length ∧
    ((cutF s l.length l i)[j]).length ≤ cutSize s N (i + j) ∧ (j + 1 < (cutF s l.length l i).length → ((cutF s l.length l i)[j]).length = cutSize s N (i + j)) := by
  intro f
  induction f with
  | zero => intro l i h _ j hj; obtain rfl : l = [] := List.eq_nil_of_length_eq_zero (by omega); simp [cutF] at hj
  | succ f ih =>
    intro l i h hN j hj
    by_cases hl : l = []
    · subst hl; simp [cutF] at hj
    · have hlp := List.length_pos_iff.2 hl
      have hp := cutSize_pos s l.length i hlp
      have hcs : cutSize s l.length i = cutSize s N i := by
        by_cases hs : s = []
        · rw [(hN hs).2]
        · unfold cutSize; simp only [hs, if_false]
      have e := cutF_step s l i hl
      cases j with
      | zero =>
        simp only [e, List.getElem_cons_zero, List.length_cons, List.length_take, Nat.add_zero]
        refine ⟨by omega, by omega, fun h2 => ?_⟩
        have h3 : l.drop (cutSize s l.length i) ≠ [] := by
          intro h4; rw [h4] at h2; simp [cutF] at h2
        have := List.length_pos_iff.2 h3
        rw [List.length_drop] at this
        omega
      | succ j =>
        have hj2 : j < (cutF s (l.drop (cutSize s l.length i)).length (l.drop (cutSize s l.length i)) (i + 1)).length := by
          rw [e, List.length_cons] at hj; omega
        have hN2 : s = [] → i + 1 = 0 ∧ (l.drop (cutSize s l.length i)).length = N := by
          intro hs
          have : l.drop (cutSize s l.length i) = [] := by
            unfold cutSize; rw [if_pos hs]; simp
          rw [this] at hj2; simp [cutF] at hj2
        have := ih (l.drop (cutSize s l.length i)) (i + 1) (by rw [List.length_drop]; omega) hN2 j hj2
        simp only [e, List.getElem_cons_succ, List.length_cons]
        rw [show i + (j + 1) = i + 1 + j by omega]
        exact ⟨this.1, this.2.1, fun h2 => this.2.2 (by omega)⟩
end Go.Proofs.YtbjoohafgkodcaaGreat
namespace Go.Proofs.YtbjoohafgkodcaaGreat
open Go Go.RowKit Go.Shelf

theorem fjoin_append (a b : List Frm) : fjoin (a ++ b) = fjoin a ++ fjoin b := List.flatMap_append
theorem fjoin_one (f : Frm) : fjoin [f] = fput f := by simp [fjoin]
/-- all other frames -/
def restF (fs : List Frm) (k : Nat) : List Frm := fs.take k ++ fs.drop (k + 1)
/-- frames behind what happened to one of them -/
def wantF (kind : Int) (fs : List Frm) (k t : Nat) (f : Frm) : List Frm :=
  if kind = 3 then fs.take (k + 1) ++ [f] ++ fs.drop (k + 1)
  else if kind = 5 then (restF fs k).take t ++ [f] ++ (restF fs k).drop t
  else restF fs k
theorem fjoin_cut (fs : List Frm) (k : Nat) (hk : k < fs.length) : fjoin fs = fjoin (fs.take k) ++ (fput fs[k] ++ fjoin (fs.drop (k + 1))) := by
  have e : fs = fs.take k ++ ([fs[k]] ++ fs.drop (k + 1)) := by
    rw [List.singleton_append, ← List.drop_eq_getElem_cons hk, List.take_append_drop]
  have : fjoin fs = fjoin (fs.take k ++ ([fs[k]] ++ fs.drop (k + 1))) := by rw [← e]
  rw [this, fjoin_append, fjoin_append, fjoin_one]
theorem loses_law (kind : Int) (hkind : kind = 2 ∨ kind = 3 ∨ kind = 5) (fs : List Frm) (k t : Nat) (hk : k < fs.length) :
    oneM (fjoin fs) ⟨kind, ((fjoin (fs.take k)).length : Nat), ((fput fs[k]).length : Nat), ((fjoin ((restF fs k).take t)).length : Nat), []⟩ = fjoin (wantF kind fs k t fs[k]) := by
  have e := fjoin_cut fs k hk
  have eT : fjoin (fs.take (k + 1)) = fjoin (fs.take k) ++ fput fs[k] := by rw [List.take_succ_eq_append_getElem hk, fjoin_append, fjoin_one]
  have eR : fjoin (restF fs k) = fjoin (fs.take k) ++ fjoin (fs.drop (k + 1)) := fjoin_append _ _
  have eR2 : fjoin (restF fs k) = fjoin ((restF fs k).take t) ++ fjoin ((restF fs k).drop t) := by rw [← fjoin_append, List.take_append_drop]
  unfold wantF
  generalize fs[k] = f at e eT ⊢
  generalize hA : fjoin (fs.take k) = A at *
  generalize hB : fjoin (fs.drop (k + 1)) = B at *
  generalize hF : fput f = F at *
  generalize hX : fjoin ((restF fs k).take t) = X at *
  generalize hY : fjoin ((restF fs k).drop t) = Y at *
  have hl : (fjoin fs).length = A.length + (F.length + B.length) := by rw [e]; simp
  have hXY : A.length + B.length = X.length + Y.length := by rw [← List.length_append, ← eR, eR2, List.length_append]
  have e1 : eAt (fjoin fs) ⟨kind, (A.length : Nat), (F.length : Nat), (X.length : Nat), []⟩ = A.length := restN_small (by omega)
  have e2 : eN (fjoin fs) ⟨kind, (A.length : Nat), (F.length : Nat), (X.length : Nat), []⟩ = F.length := by unfold eN; rw [e1]; exact restN_small (by omega)
  have d1 : (fjoin fs).take A.length = A := by rw [e, List.take_left]
  have d2 : (fjoin fs).drop A.length = F ++ B := by rw [e, List.drop_left]
  have d3 : (fjoin fs).drop (A.length + F.length) = B := by rw [← List.drop_drop, d2, List.drop_left]
  have d4 : (fjoin fs).take (A.length + F.length) = A ++ F := by rw [e, ← List.append_assoc, ← List.length_append, List.take_left]
  have e3 : eLeft (fjoin fs) ⟨kind, (A.length : Nat), (F.length : Nat), (X.length : Nat), []⟩ = A ++ B := by unfold eLeft; rw [e1, e2, d1, d3]
  have e4 : eOwn (fjoin fs) ⟨kind, (A.length : Nat), (F.length : Nat), (X.length : Nat), []⟩ = F := by unfold eOwn; rw [e1, e2, d2, List.take_left]
  have e5 : eTo (fjoin fs) ⟨kind, (A.length : Nat), (F.length : Nat), (X.length : Nat), []⟩ = X.length := by
    unfold eTo; rw [e3]; exact restN_small (by rw [List.length_append]; omega)
  unfold oneM
  rw [e1, e2, e3, e4, e5, d2, d4]
  rcases hkind with rfl | rfl | rfl
  · simp only [show ¬ ((2 : Int) = 1) by decide, show ¬ ((2 : Int) = 3) by decide, show ¬ ((2 : Int) = 5) by decide, if_false, if_true]
    rw [← eR]
  · simp only [show ¬ ((3 : Int) = 1) by decide, show ¬ ((3 : Int) = 2) by decide, if_false, if_true]
    rw [fjoin_append, fjoin_append, fjoin_one, eT, hB, hF]; simp
  · simp only [show ¬ ((5 : Int) = 1) by decide, show ¬ ((5 : Int) = 2) by decide, show ¬ ((5 : Int) = 3) by decide, show ¬ ((5 : Int) = 4) by decide, if_false, if_true]
    rw [← eR, eR2, List.take_left, List.drop_left, fjoin_append, fjoin_append, fjoin_one, hX, hY, hF]
theorem loses_kind (kind : Int) (hkind : kind = 2 ∨ kind = 3 ∨ kind = 5) (fs : List Frm) (k t : Nat) (hk : k < fs.length) (h : ∀ f ∈ fs, f.2.length ≤ 300) : ∀ f ∈ wantF kind fs k t fs[k], f.2.length ≤ 300 := by
  have hr : ∀ f ∈ restF fs k, f ∈ fs := by
    intro f hf
    rcases List.mem_append.1 hf with hf | hf
    · exact List.mem_of_mem_take hf
    · exact List.mem_of_mem_drop hf
  intro f hf
  apply h
  have hfk := List.getElem_mem hk
  rcases hkind with rfl | rfl | rfl
  · exact hr f hf
  · rcases List.mem_append.1 hf with hf | hf
    · rcases List.mem_append.1 hf with hf | hf
      · exact List.mem_of_mem_take hf
      · rw [List.mem_singleton.1 hf]; exact hfk
    · exact List.mem_of_mem_drop hf
  · rcases List.mem_append.1 hf with hf | hf
    · rcases List.mem_append.1 hf with hf | hf
      · exact hr f (List.mem_of_mem_take hf)
      · rw [List.mem_singleton.1 hf]; exact hfk
    · exact hr f (List.mem_of_mem_drop hf)
theorem wantF_len (kind : Int) (fs : List Frm) (k t : Nat) (hk : k < fs.length) (f : Frm) : (wantF kind fs k t f).length ≤ fs.length + 1 := by
  have hr : (restF fs k).length ≤ fs.length := by unfold restF; rw [List.length_append, List.length_take, List.length_drop]; omega
  unfold wantF
  split
  · rw [List.length_append, List.length_append, List.length_take, List.length_drop]; simp; omega
  split
  · rw [List.length_append, List.length_append, List.length_take, List.length_drop]; simp; omega
  · omega
theorem fplace_snd (k : Nat) (fs : List Frm) : (fplace k fs).map (·.2) = fs := by
  induction fs generalizing k with
  | nil => rfl
  | cons f fs ih => simp [fplace, ih]
theorem walk_all (ended : Bool) (fs : List Frm) (k : Nat) (h : ∀ f ∈ fs, f.2.length ≤ 8192) : walkL ended (fjoin fs) k = (fplace k fs, 0, k + (fjoin fs).length) := by
  have := walk_frames ended [] fs k h
  rw [List.append_nil, walkL_nil, List.append_nil] at this
  exact this

theorem ferr_first {l : List UInt8} (h : l ≠ []) (h0 : byteAt l 0 ≠ 197) : ferr l = 3 := by
  unfold ferr
  rw [if_pos (.inl ⟨List.length_pos_iff.2 h, h0⟩)]
theorem walk_noC5 (ended : Bool) (junk m : List UInt8) (k : Nat) (h : ∀ x ∈ junk, x ≠ 197) :
    walkL ended (junk ++ m) k = ((walkL ended m (k + junk.length)).1, (walkL ended m (k + junk.length)).2.1 + junk.length, (walkL ended m (k + junk.length)).2.2) := by
  refine walk_junk ended m junk k fun i hi => ?_
  have h1 : (junk ++ m).drop i = junk[i] :: (junk ++ m).drop (i + 1) := by
    rw [List.drop_eq_getElem_cons (by rw [List.length_append]; omega), List.getElem_append_left hi]
  have h2 : ferr ((junk ++ m).drop i) = 3 := by
    rw [h1]
    refine ferr_first (by simp) ?_
    have := h _ (List.getElem_mem hi)
    intro e
    apply this
    have e' : (junk[i]).toNat = 197 := e
    exact UInt8.toNat_inj.1 e'
  rw [h2]; exact ⟨by decide, by decide⟩
/-- a frame has C5 nowhere but at its beginning -/
def plainF (f : Frm) : Prop := ∀ i, 0 < i → i < (fput f).length → byteAt (fput f) i ≠ 197
theorem lost_law (fs : List Frm) (k i n : Nat) (hk : k < fs.length) (hl : ∀ f ∈ fs, f.2.length ≤ 8192) (hp : ∀ f ∈ fs, plainF f) (hn : 0 < n) (hin : i + n ≤ (fput fs[k]).length) :
    let b := fjoin (fs.take k) ++ ((fput fs[k]).take i ++ (fput fs[k]).drop (i + n)) ++ fjoin (fs.drop (k + 1))
    (0 < i ∧ ∃ x ∈ (walkL true b 0).1, x.1 = (fjoin (fs.take k)).length) ∨ (walkL true b 0).1.map (·.2) = restF fs k := by
  intro b
  have hpk := hp _ (List.getElem_mem hk)
  unfold plainF at hpk
  have hb : b = fjoin (fs.take k) ++ (((fput fs[k]).take i ++ (fput fs[k]).drop (i + n)) ++ fjoin (fs.drop (k + 1))) := List.append_assoc _ _ _
  have hw := walk_frames true (((fput fs[k]).take i ++ (fput fs[k]).drop (i + n)) ++ fjoin (fs.drop (k + 1))) (fs.take k) 0 (fun f hf => hl f (List.mem_of_mem_take hf))
  rw [← hb, Nat.zero_add] at hw
  generalize hF : fput fs[k] = F at *
  have hwB := fun j => walk_all true (fs.drop (k + 1)) j (fun f hf => hl f (List.mem_of_mem_drop hf))
  generalize hB : fjoin (fs.drop (k + 1)) = B at *
  generalize hA : (fjoin (fs.take k)).length = j at *
  have hmem : ∀ x ∈ F.drop 1, x ≠ 197 := by
    intro x hx e
    obtain ⟨a, ha, rfl⟩ := List.getElem_of_mem hx
    rw [List.length_drop] at ha
    apply hpk (a + 1) (by omega) (by omega)
    unfold byteAt
    rw [List.getD_eq_getElem?_getD, List.getElem?_eq_getElem (by omega), Option.getD_some]
    rw [List.getElem_drop] at e
    have : F[a + 1]'(by omega) = F[1 + a]'(by omega) := by congr 1; omega
    rw [this, e]; rfl
  have key : ∀ J : List UInt8, ∀ j', (∀ x ∈ J, x ≠ 197) → (walkL true (J ++ B) j').1.map (·.2) = fs.drop (k + 1) := by
    intro J j' hJ
    rw [walk_noC5 true J B j' hJ, hwB]
    exact fplace_snd _ _
  by_cases hi : i = 0
  · subst hi
    refine .inr ?_
    rw [hw, List.map_append, fplace_snd]
    unfold restF
    congr 1
    rw [List.take_zero, List.nil_append]
    refine key _ _ fun x hx => hmem x ?_
    rw [show 0 + n = 1 + (n - 1) by omega, ← List.drop_drop] at hx
    exact List.mem_of_mem_drop hx
  · by_cases h0 : ferr ((F.take i ++ F.drop (i + n)) ++ B) = 0
    · refine .inl ⟨by omega, (j, fof ((F.take i ++ F.drop (i + n)) ++ B)), ?_, rfl⟩
      rw [hw, walkL_ok _ h0]
      simp
    · refine .inr ?_
      rw [hw, List.map_append, fplace_snd]
      unfold restF
      congr 1
      have hne : (F.take i ++ F.drop (i + n)) ++ B ≠ [] := by
        intro e
        have := congrArg List.length e
        rw [List.length_append, List.length_append, List.length_take, List.length_nil] at this
        omega
      rw [walkL_pass _ hne h0 (fun _ => rfl)]
      have e1 : ((F.take i ++ F.drop (i + n)) ++ B).drop 1 = ((F.drop 1).take (i - 1) ++ F.drop (i + n)) ++ B := by
        obtain ⟨x, F', rfl⟩ : ∃ x F', F = x :: F' := by
          cases F with
          | nil => simp at hin; omega
          | cons x F' => exact ⟨x, F', rfl⟩
        obtain ⟨i, rfl⟩ : ∃ i', i = i' + 1 := ⟨i - 1, by omega⟩
        simp
      rw [e1]
      refine key _ _ fun x hx => hmem x ?_
      rcases List.mem_append.1 hx with hx | hx
      · exact List.mem_of_mem_take hx
      · rw [show i + n = 1 + (i + n - 1) by omega, ← List.drop_drop] at hx
        exact List.mem_of_mem_drop hx

/-- junk i, or none -/
def jk (junk : List (List UInt8)) (i : Nat) : List UInt8 := if h : i < junk.length then junk[i] else []
/-- frame i's bytes, or none -/
def fk (fs : List Frm) (i : Nat) : List UInt8 := if h : i < fs.length then fput fs[i] else []
/-- junk and frames, by turns -/
def weave (fs : List Frm) (junk : List (List UInt8)) : Nat → List UInt8
  | 0 => []
  | n + 1 => weave fs junk n ++ jk junk n ++ fk fs n
def junkN (junk : List (List UInt8)) : Nat → Nat
  | 0 => 0
  | n + 1 => junkN junk n + (jk junk n).length
theorem weave_walk (fs : List Frm) (junk : List (List UInt8)) (hf : ∀ f ∈ fs, f.2.length ≤ 8192) : ∀ n : Nat, (∀ i, i < n → ∀ x ∈ jk junk i, x ≠ 197) →
    ∃ X : List Fnd, X.map (·.2) = fs.take n ∧ ∀ m, walkL false (weave fs junk n ++ m) 0 = (X ++ (walkL false m (weave fs junk n).length).1, junkN junk n + (walkL false m (weave fs junk n).length).2.1, (walkL false m (weave fs junk n).length).2.2) := by
  intro n
  induction n with
  | zero => exact fun _ => ⟨[], rfl, fun m => by simp [weave, junkN]⟩
  | succ n ih =>
    intro h
    obtain ⟨X, h1, h2⟩ := ih (fun i hi => h i (by omega))
    have hj := h n (by omega)
    by_cases hn : n < fs.length
    · have e1 : fk fs n = fput fs[n] := by simp [fk, hn]
      refine ⟨X ++ [((weave fs junk n).length + (jk junk n).length, fs[n])], ?_, fun m => ?_⟩
      · rw [List.map_append, h1, List.take_succ_eq_append_getElem hn]; rfl
      · have e : weave fs junk (n + 1) ++ m = weave fs junk n ++ (jk junk n ++ (fput fs[n] ++ m)) := by simp [weave, e1]
        obtain ⟨q1, q2, q3⟩ := fput_read fs[n] m (hf _ (List.getElem_mem hn))
        have e3 : (weave fs junk (n + 1)).length = (weave fs junk n).length + (jk junk n).length + ((fs[n]).2.length + 9) := by
          simp [weave, e1, fput_length]; omega
        have e2 : (fput fs[n] ++ m).drop ((fs[n]).2.length + 9) = m := by rw [← fput_length, List.drop_left]
        rw [e, h2, walk_noC5 _ _ _ _ hj, walkL_ok _ q1, q2, q3, e2, e3]
        simp only [List.append_assoc, List.singleton_append, junkN]
        refine Prod.ext rfl (Prod.ext ?_ rfl)
        simp only; omega
    · have e1 : fk fs n = [] := by simp [fk, hn]
      refine ⟨X, ?_, fun m => ?_⟩
      · rw [h1, List.take_of_length_le (by omega), List.take_of_length_le (by omega)]
      · have e : weave fs junk (n + 1) ++ m = weave fs junk n ++ (jk junk n ++ m) := by simp [weave, e1]
        have e3 : (weave fs junk (n + 1)).length = (weave fs junk n).length + (jk junk n).length := by
          simp [weave, e1]
        rw [e, h2, walk_noC5 _ _ _ _ hj, e3]
        simp only [junkN]
        refine Prod.ext rfl (Prod.ext ?_ rfl)
        simp only; omega
theorem weave_all (fs : List Frm) (junk : List (List UInt8)) (hf : ∀ f ∈ fs, f.2.length ≤ 8192) (h : ∀ i, i < fs.length + 1 → ∀ x ∈ jk junk i, x ≠ 197) :
    (walkL false (weave fs junk (fs.length + 1)) 0).1.map (·.2) = fs ∧ (walkL false (weave fs junk (fs.length + 1)) 0).2.1 = junkN junk (fs.length + 1) ∧ (walkL false (weave fs junk (fs.length + 1)) 0).2.2 = (weave fs junk (fs.length + 1)).length := by
  obtain ⟨X, h1, h2⟩ := weave_walk fs junk hf (fs.length + 1) h
  have := h2 []
  rw [List.append_nil, walkL_nil] at this
  rw [this]
  simp only [List.append_nil, Nat.add_zero, and_true]
  rw [h1, List.take_of_length_le (by omega)]
end Go.Proofs.YtbjoohafgkodcaaGreat
