/- Laws of what is found of a stream, in plain words. ; Frames and streams in plain words: what a frame's bytes are, what is read, what is found of a stream. -/
import Derived.Test.YtbjoohafgkodcaaGreatCrcB
namespace Go.Proofs.YtbjoohafgkodcaaGreat
open Go Go.RowKit Go.Shelf

/-- a frame: its type, and its payload -/
abbrev Frm := UInt8 × List UInt8
/-- the head behind the first two bytes -/
def fhead (f : Frm) : List UInt8 := [f.1, UInt8.ofNat (f.2.length % 256), UInt8.ofNat (f.2.length / 256)]
/-- the bytes of a frame -/
def fput (f : Frm) : List UInt8 := [197, 154] ++ cseal (fhead f ++ f.2)
/-- byte i, or 0 -/
def byteAt (l : List UInt8) (i : Nat) : Nat := (l.getD i 0).toNat
/-- how long the payload is said to be -/
def flen (l : List UInt8) : Nat := byteAt l 3 + 256 * byteAt l 4
/-- what is wrong with the first bytes: 0 nothing, 3 form, 4 short, 2 long, 12 sum -/
def ferr (l : List UInt8) : Nat :=
  if (0 < l.length ∧ byteAt l 0 ≠ 197) ∨ (1 < l.length ∧ byteAt l 1 ≠ 154) then 3
  else if l.length < 5 then 4
  else if 8192 < flen l then 2
  else if l.length < flen l + 9 then 4
  else if cseal ((l.drop 2).take (flen l + 3)) = (l.drop 2).take (flen l + 7) then 0 else 12
/-- the frame that is read -/
def fof (l : List UInt8) : Frm := (l.getD 2 0, (l.drop 5).take (flen l))
def fread (l : List UInt8) : Frm × Nat × Nat := if ferr l = 0 then (fof l, flen l + 9, 0) else ((0, []), 0, ferr l)
theorem cseal_length (l : List UInt8) : (cseal l).length = l.length + 4 := by simp [cseal, le32]
theorem fput_length (f : Frm) : (fput f).length = f.2.length + 9 := by simp [fput, cseal_length, fhead]
theorem byteAt_append (l m : List UInt8) (i : Nat) (h : i < l.length) : byteAt (l ++ m) i = byteAt l i := by
  unfold byteAt; rw [List.getD_eq_getElem?_getD, List.getD_eq_getElem?_getD, List.getElem?_append_left h]
theorem byteAt_lt (l : List UInt8) (i : Nat) : byteAt l i < 256 := UInt8.toNat_lt _
theorem flen_append (l m : List UInt8) (h : 5 ≤ l.length) : flen (l ++ m) = flen l := by
  unfold flen; rw [byteAt_append _ _ _ (by omega), byteAt_append _ _ _ (by omega)]
theorem take_drop_append (l m : List UInt8) (i n : Nat) (h : i + n ≤ l.length) : ((l ++ m).drop i).take n = (l.drop i).take n := by
  rw [List.drop_append_of_le_length (by omega), List.take_append_of_le_length (by rw [List.length_drop]; omega)]
/-- what is known of the first bytes stays, whatever comes behind -/
theorem ferr_append (l m : List UInt8) (h : ferr l ≠ 4) (hl : l ≠ []) : ferr (l ++ m) = ferr l := by
  have hpos : 0 < l.length := List.length_pos_iff.2 hl
  have b0 := byteAt_append l m 0 hpos
  have hlen : (l ++ m).length = l.length + m.length := List.length_append
  unfold ferr at h ⊢
  by_cases h1 : (0 < l.length ∧ byteAt l 0 ≠ 197) ∨ (1 < l.length ∧ byteAt l 1 ≠ 154)
  · rw [if_pos h1, if_pos]
    rcases h1 with ⟨_, h1⟩ | ⟨h1, h2⟩
    · exact .inl ⟨by omega, by rw [b0]; exact h1⟩
    · exact .inr ⟨by omega, by rw [byteAt_append _ _ _ h1]; exact h2⟩
  · rw [if_neg h1] at h
    by_cases h5 : l.length < 5
    · rw [if_pos h5] at h; exact absurd rfl h
    · have b1 := byteAt_append l m 1 (by omega)
      have h1' : ¬ ((0 < (l ++ m).length ∧ byteAt (l ++ m) 0 ≠ 197) ∨ (1 < (l ++ m).length ∧ byteAt (l ++ m) 1 ≠ 154)) := by
        rw [b0, b1]; rintro (h' | h')
        · exact h1 (.inl ⟨hpos, h'.2⟩)
        · exact h1 (.inr ⟨by omega, h'.2⟩)
      have h5' : ¬ (l ++ m).length < 5 := by omega
      rw [if_neg h5] at h
      rw [if_neg h1, if_neg h1', if_neg h5, if_neg h5', flen_append _ _ (by omega)]
      by_cases h6 : 8192 < flen l
      · rw [if_pos h6, if_pos h6]
      · rw [if_neg h6] at h
        by_cases h7 : l.length < flen l + 9
        · rw [if_pos h7] at h; exact absurd rfl h
        · have h7' : ¬ (l ++ m).length < flen l + 9 := by omega
          rw [if_neg h6, if_neg h6, if_neg h7, if_neg h7', take_drop_append _ _ _ _ (by omega), take_drop_append _ _ _ _ (by omega)]
theorem ferr_nil : ferr [] = 4 := by decide
/-- what a whole frame is -/
theorem ferr_zero {l : List UInt8} (h : ferr l = 0) : flen l + 9 ≤ l.length ∧ flen l ≤ 8192 ∧ byteAt l 0 = 197 ∧ byteAt l 1 = 154 ∧ cseal ((l.drop 2).take (flen l + 3)) = (l.drop 2).take (flen l + 7) := by
  unfold ferr at h
  split at h
  · cases h
  · rename_i h1
    split at h
    · cases h
    · split at h
      · cases h
      · split at h
        · cases h
        · split at h
          · rename_i h2 h3 h4 h5
            refine ⟨by omega, by omega, ?_, ?_, h5⟩
            · apply Decidable.by_contra; intro h'; exact h1 (.inl ⟨by omega, h'⟩)
            · apply Decidable.by_contra; intro h'; exact h1 (.inr ⟨by omega, h'⟩)
          · cases h
theorem ferr_short {l : List UInt8} (h : ferr l = 4) : l.length < 8201 := by
  unfold ferr at h
  split at h
  · cases h
  · split at h
    · omega
    · split at h
      · cases h
      · split at h
        · omega
        · split at h <;> cases h
theorem ferr_cases (l : List UInt8) : ferr l = 0 ∨ ferr l = 2 ∨ ferr l = 3 ∨ ferr l = 4 ∨ ferr l = 12 := by
  unfold ferr; repeat' split
  all_goals simp
theorem ferr_zero_append {l : List UInt8} (m : List UInt8) (h : ferr l = 0) : ferr (l ++ m) = 0 := by
  rw [ferr_append l m (by omega) (by rintro rfl; simp [ferr_nil] at h), h]
theorem fof_append {l : List UInt8} (m : List UInt8) (h : ferr l = 0) : fof (l ++ m) = fof l ∧ flen (l ++ m) = flen l := by
  have hz := ferr_zero h
  have hf := flen_append l m (by omega)
  refine ⟨?_, hf⟩
  unfold fof
  rw [hf, take_drop_append _ _ _ _ (by omega), List.getD_eq_getElem?_getD, List.getD_eq_getElem?_getD, List.getElem?_append_left (by omega)]
theorem fof_len {l : List UInt8} (h : flen l + 9 ≤ l.length) : (fof l).2.length = flen l := by
  simp [fof]; omega
/-- what is read is what stands there -/
theorem fput_fof {l : List UInt8} (h : ferr l = 0) : fput (fof l) = l.take (flen l + 9) := by
  obtain ⟨h1, h2, h3, h4, h5⟩ := ferr_zero h
  have hn := fof_len h1
  match l, h1 with
  | [], h1 => simp at h1
  | [_], h1 => simp at h1
  | [_, _], h1 => simp at h1
  | [_, _, _], h1 => simp at h1
  | [_, _, _, _], h1 => simp at h1
  | a :: b :: c :: d :: e :: r, h1 =>
    have ha : a = 197 := UInt8.toNat_inj.1 h3
    have hb : b = 154 := UInt8.toNat_inj.1 h4
    have hd := d.toNat_lt
    have he := e.toNat_lt
    have hl : flen (a :: b :: c :: d :: e :: r) = d.toNat + 256 * e.toNat := rfl
    have e1 : UInt8.ofNat (flen (a :: b :: c :: d :: e :: r) % 256) = d := by
      rw [hl, show (d.toNat + 256 * e.toNat) % 256 = d.toNat by omega]; simp
    have e2 : UInt8.ofNat (flen (a :: b :: c :: d :: e :: r) / 256) = e := by
      rw [hl, show (d.toNat + 256 * e.toNat) / 256 = e.toNat by omega]; simp
    unfold fput fhead
    rw [hn, e1, e2]
    have h6 : [(fof (a :: b :: c :: d :: e :: r)).1, d, e] ++ (fof (a :: b :: c :: d :: e :: r)).2 = ((a :: b :: c :: d :: e :: r).drop 2).take (flen (a :: b :: c :: d :: e :: r) + 3) := by
      simp [fof, List.take_succ_cons]
    rw [h6, h5]
    subst ha hb
    simp [List.take_succ_cons]
/-- a frame's own bytes are read as that frame -/
theorem fput_read (f : Frm) (m : List UInt8) (h : f.2.length ≤ 8192) : ferr (fput f ++ m) = 0 ∧ fof (fput f ++ m) = f ∧ flen (fput f ++ m) = f.2.length := by
  obtain ⟨t, p⟩ := f
  simp only at h
  have h1 : (UInt8.ofNat (p.length % 256)).toNat = p.length % 256 := by rw [UInt8.toNat_ofNat']; omega
  have h2 : (UInt8.ofNat (p.length / 256)).toNat = p.length / 256 := by rw [UInt8.toNat_ofNat']; omega
  have e : fput (t, p) ++ m = 197 :: 154 :: t :: UInt8.ofNat (p.length % 256) :: UInt8.ofNat (p.length / 256) :: (p ++ le32 (csum (fhead (t, p) ++ p)) ++ m) := by
    simp [fput, cseal, fhead]
  have hl : flen (fput (t, p) ++ m) = p.length := by
    rw [e]
    show (UInt8.ofNat (p.length % 256)).toNat + 256 * (UInt8.ofNat (p.length / 256)).toNat = _
    omega
  have hlen : (fput (t, p) ++ m).length = p.length + 9 + m.length := by rw [List.length_append, fput_length]
  have h4 : (le32 (csum (fhead (t, p) ++ p))).length = 4 := rfl
  have d2 : (fput (t, p) ++ m).drop 2 = cseal (fhead (t, p) ++ p) ++ m := by simp [fput]
  have hc : (cseal (fhead (t, p) ++ p)).length = p.length + 7 := by rw [cseal_length]; simp [fhead]
  have k1 : ((fput (t, p) ++ m).drop 2).take (p.length + 7) = cseal (fhead (t, p) ++ p) := by
    rw [d2, ← hc, List.take_left]
  have k2 : ((fput (t, p) ++ m).drop 2).take (p.length + 3) = fhead (t, p) ++ p := by
    rw [d2]
    have : p.length + 3 = (fhead (t, p) ++ p).length := by simp [fhead]
    rw [this, cseal, List.append_assoc, List.take_left]
  refine ⟨?_, ?_, hl⟩
  · unfold ferr
    rw [hl, k1, k2]
    rw [if_neg, if_neg (by omega), if_neg (by omega), if_neg (by omega), if_pos rfl]
    rw [e]
    rintro (⟨_, h'⟩ | ⟨_, h'⟩)
    · exact h' rfl
    · exact h' rfl
  · unfold fof
    rw [hl]
    refine Prod.ext ?_ ?_
    · rw [e]; rfl
    · rw [e]; simp
theorem fput_read0 (f : Frm) (h : f.2.length ≤ 8192) : ferr (fput f) = 0 ∧ fof (fput f) = f ∧ flen (fput f) = f.2.length := by
  have := fput_read f [] h; simpa using this

/-! ## streams -/
/-- what is found: frames at their places, how many bytes were passed over, where it isn't known -/
abbrev Fnd := Nat × Frm
def walkF (ended : Bool) : Nat → List UInt8 → Nat → List Fnd × Nat × Nat
  | 0, _, k => ([], 0, k)
  | n + 1, l, k =>
    if l = [] then ([], 0, k)
    else if ferr l = 0 then ((k, fof l) :: (walkF ended n (l.drop (flen l + 9)) (k + (flen l + 9))).1, (walkF ended n (l.drop (flen l + 9)) (k + (flen l + 9))).2)
    else if ferr l = 4 ∧ ended = false then ([], 0, k)
    else ((walkF ended n (l.drop 1) (k + 1)).1, (walkF ended n (l.drop 1) (k + 1)).2.1 + 1, (walkF ended n (l.drop 1) (k + 1)).2.2)
def walkL (ended : Bool) (l : List UInt8) (k : Nat) : List Fnd × Nat × Nat := walkF ended l.length l k
theorem walkF_more (ended : Bool) : ∀ (n : Nat) (l : List UInt8) (k : Nat), l.length ≤ n → walkF ended n l k = walkF ended l.length l k := by
  intro n
  induction n using Nat.strongRecOn with
  | _ n ih =>
    intro l k h
    cases l with
    | nil => cases n <;> simp [walkF]
    | cons x l =>
      cases n with
      | zero => simp at h
      | succ n =>
        have h1 : ∀ j, 0 < j → ∀ k', walkF ended n ((x :: l).drop j) k' = walkF ended l.length ((x :: l).drop j) k' := by
          intro j hj k'
          have hl : ((x :: l).drop j).length ≤ l.length := by simp; omega
          rw [ih n (by omega) _ _ (by simp at h; omega)]
          by_cases e : l.length < n
          · rw [ih l.length (by omega) _ _ hl]
          · have : n = l.length := by simp at h; omega
            subst this
            rw [ih l.length (by omega) _ _ hl]
        simp only [List.length_cons, walkF]
        rw [h1 (flen (x :: l) + 9) (by omega), h1 1 (by omega)]
theorem walkL_nil (ended : Bool) (k : Nat) : walkL ended [] k = ([], 0, k) := rfl
theorem walkL_ok {ended : Bool} {l : List UInt8} (k : Nat) (h : ferr l = 0) :
    walkL ended l k = ((k, fof l) :: (walkL ended (l.drop (flen l + 9)) (k + (flen l + 9))).1, (walkL ended (l.drop (flen l + 9)) (k + (flen l + 9))).2) := by
  cases l with
  | nil => rw [ferr_nil] at h; cases h
  | cons x l =>
    unfold walkL
    simp only [List.length_cons, walkF]
    rw [if_neg (by simp), if_pos h, walkF_more ended l.length _ _ (by simp)]
theorem walkL_short {l : List UInt8} (k : Nat) (h : ferr l = 4) : walkL false l k = ([], 0, k) := by
  cases l with
  | nil => rfl
  | cons x l =>
    unfold walkL
    simp only [List.length_cons, walkF]
    rw [if_neg (by simp), if_neg (by omega), if_pos (by simp [h])]
theorem walkL_pass {ended : Bool} {l : List UInt8} (k : Nat) (hl : l ≠ []) (h : ferr l ≠ 0) (h4 : ferr l = 4 → ended = true) :
    walkL ended l k = ((walkL ended (l.drop 1) (k + 1)).1, (walkL ended (l.drop 1) (k + 1)).2.1 + 1, (walkL ended (l.drop 1) (k + 1)).2.2) := by
  cases l with
  | nil => exact absurd rfl hl
  | cons x l =>
    unfold walkL
    simp only [List.length_cons, walkF]
    rw [if_neg (by simp), if_neg h, if_neg (by rintro ⟨h1, h2⟩; rw [h4 h1] at h2; cases h2), walkF_more ended l.length _ _ (by simp)]
end Go.Proofs.YtbjoohafgkodcaaGreat
namespace Go.Proofs.YtbjoohafgkodcaaGreat
open Go Go.RowKit Go.Shelf

/-- a frame is well sealed just when its bytes are those of what is read -/
theorem fput_iff {l : List UInt8} (h1 : flen l + 9 ≤ l.length) (h3 : byteAt l 0 = 197) (h4 : byteAt l 1 = 154) : fput (fof l) = l.take (flen l + 9) ↔ cseal ((l.drop 2).take (flen l + 3)) = (l.drop 2).take (flen l + 7) := by
  have hn := fof_len h1
  match l, h1 with
  | [], h1 => simp at h1
  | [_], h1 => simp at h1
  | [_, _], h1 => simp at h1
  | [_, _, _], h1 => simp at h1
  | [_, _, _, _], h1 => simp at h1
  | a :: b :: c :: d :: e :: r, h1 =>
    have ha : a = 197 := UInt8.toNat_inj.1 h3
    have hb : b = 154 := UInt8.toNat_inj.1 h4
    have hd := d.toNat_lt
    have he := e.toNat_lt
    have hl : flen (a :: b :: c :: d :: e :: r) = d.toNat + 256 * e.toNat := rfl
    have e1 : UInt8.ofNat (flen (a :: b :: c :: d :: e :: r) % 256) = d := by
      rw [hl, show (d.toNat + 256 * e.toNat) % 256 = d.toNat by omega]; simp
    have e2 : UInt8.ofNat (flen (a :: b :: c :: d :: e :: r) / 256) = e := by
      rw [hl, show (d.toNat + 256 * e.toNat) / 256 = e.toNat by omega]; simp
    unfold fput fhead
    rw [hn, e1, e2]
    have h6 : [(fof (a :: b :: c :: d :: e :: r)).1, d, e] ++ (fof (a :: b :: c :: d :: e :: r)).2 = ((a :: b :: c :: d :: e :: r).drop 2).take (flen (a :: b :: c :: d :: e :: r) + 3) := by
      simp [fof, List.take_succ_cons]
    rw [h6]
    subst ha hb
    simp [List.take_succ_cons]

theorem walk_ind {ended : Bool} {C : List UInt8 → Nat → Prop} (h0 : ∀ k, C [] k) (hok : ∀ l k, ferr l = 0 → C (l.drop (flen l + 9)) (k + (flen l + 9)) → C l k)
    (hs : ∀ l k, l ≠ [] → ferr l = 4 → ended = false → C l k) (hp : ∀ l k, l ≠ [] → ferr l ≠ 0 → (ferr l = 4 → ended = true) → C (l.drop 1) (k + 1) → C l k) : ∀ l k, C l k := by
  have H : ∀ n l k, l.length ≤ n → C l k := by
    intro n
    induction n with
    | zero => intro l k h; rw [List.eq_nil_of_length_eq_zero (by omega : l.length = 0)]; exact h0 k
    | succ n ih =>
      intro l k h
      by_cases hl : l = []
      · subst hl; exact h0 k
      · have hpos := List.length_pos_iff.2 hl
        by_cases he : ferr l = 0
        · exact hok l k he (ih _ _ (by simp; omega))
        · by_cases h4 : ferr l = 4
          · cases he2 : ended with
            | false => exact hs l k hl h4 he2
            | true => exact hp l k hl he (fun _ => he2) (ih _ _ (by simp; omega))
          · exact hp l k hl he (fun h => absurd h h4) (ih _ _ (by simp; omega))
  exact fun l k => H l.length l k (Nat.le_refl _)

theorem walk_from (ended : Bool) (l : List UInt8) (k : Nat) : k ≤ (walkL ended l k).2.2 ∧ (walkL ended l k).2.2 ≤ k + l.length ∧ (ended = true → (walkL ended l k).2.2 = k + l.length) ∧
    ((walkL ended l k).2.2 = k + l.length ∨ (ferr (l.drop ((walkL ended l k).2.2 - k)) = 4)) := by
  refine walk_ind (ended := ended) (C := fun l k => k ≤ (walkL ended l k).2.2 ∧ (walkL ended l k).2.2 ≤ k + l.length ∧ (ended = true → (walkL ended l k).2.2 = k + l.length) ∧ ((walkL ended l k).2.2 = k + l.length ∨ (ferr (l.drop ((walkL ended l k).2.2 - k)) = 4))) ?_ ?_ ?_ ?_ l k
  · intro k; simp [walkL_nil]
  · intro l k h ih
    have hz := (ferr_zero h).1
    rw [walkL_ok k h]
    simp only [List.length_drop, List.drop_drop] at ih ⊢
    obtain ⟨i1, i2, i3, i4⟩ := ih
    refine ⟨by omega, by omega, fun h => by have := i3 h; omega, ?_⟩
    rcases i4 with i4 | i4
    · exact .inl (by omega)
    · refine .inr ?_
      rwa [show flen l + 9 + ((walkL ended (l.drop (flen l + 9)) (k + (flen l + 9))).2.2 - (k + (flen l + 9))) = (walkL ended (l.drop (flen l + 9)) (k + (flen l + 9))).2.2 - k by omega] at i4
  · intro l k hl h he
    subst he
    rw [walkL_short k h]
    simp [h]
  · intro l k hl h h4 ih
    have hpos := List.length_pos_iff.2 hl
    rw [walkL_pass k hl h h4]
    simp only [List.length_drop, List.drop_drop] at ih ⊢
    obtain ⟨i1, i2, i3, i4⟩ := ih
    refine ⟨by omega, by omega, fun h => by have := i3 h; omega, ?_⟩
    rcases i4 with i4 | i4
    · exact .inl (by omega)
    · refine .inr ?_
      rwa [show 1 + ((walkL ended (l.drop 1) (k + 1)).2.2 - (k + 1)) = (walkL ended (l.drop 1) (k + 1)).2.2 - k by omega] at i4

/-- where a frame ends -/
def fend (x : Fnd) : Nat := x.1 + (x.2.2.length + 9)
theorem walk_at (ended : Bool) (l : List UInt8) (k : Nat) : (∀ x ∈ (walkL ended l k).1, k ≤ x.1 ∧ fend x ≤ (walkL ended l k).2.2 ∧ ferr (l.drop (x.1 - k)) = 0 ∧ fof (l.drop (x.1 - k)) = x.2) ∧ (walkL ended l k).1.Pairwise (fun x y => fend x ≤ y.1) := by
  refine walk_ind (ended := ended) (C := fun l k => (∀ x ∈ (walkL ended l k).1, k ≤ x.1 ∧ fend x ≤ (walkL ended l k).2.2 ∧ ferr (l.drop (x.1 - k)) = 0 ∧ fof (l.drop (x.1 - k)) = x.2) ∧ (walkL ended l k).1.Pairwise (fun x y => fend x ≤ y.1)) ?_ ?_ ?_ ?_ l k
  · intro k; simp [walkL_nil]
  · intro l k h ih
    have hz := (ferr_zero h).1
    have hf := (walk_from ended (l.drop (flen l + 9)) (k + (flen l + 9))).1
    rw [walkL_ok k h]
    obtain ⟨i1, i2⟩ := ih
    refine ⟨?_, ?_⟩
    · intro x hx
      rcases List.mem_cons.1 hx with rfl | hx
      · refine ⟨Nat.le_refl _, ?_, by simpa using h, by simp⟩
        simp only [fend, fof_len hz]; exact hf
      · obtain ⟨j1, j2, j3, j4⟩ := i1 x hx
        rw [List.drop_drop, show flen l + 9 + (x.1 - (k + (flen l + 9))) = x.1 - k by omega] at j3 j4
        exact ⟨by omega, j2, j3, j4⟩
    · refine List.Pairwise.cons ?_ i2
      intro x hx
      simp only [fend, fof_len hz]
      exact (i1 x hx).1
  · intro l k hl h he
    subst he
    rw [walkL_short k h]
    simp
  · intro l k hl h h4 ih
    rw [walkL_pass k hl h h4]
    obtain ⟨i1, i2⟩ := ih
    refine ⟨?_, i2⟩
    intro x hx
    obtain ⟨j1, j2, j3, j4⟩ := i1 x hx
    rw [List.drop_drop, show 1 + (x.1 - (k + 1)) = x.1 - k by omega] at j3 j4
    exact ⟨by omega, j2, j3, j4⟩

theorem walk_shift (ended : Bool) (j : Nat) (l : List UInt8) (k : Nat) : walkL ended l (k + j) = ((walkL ended l k).1.map (fun x => (x.1 + j, x.2)), (walkL ended l k).2.1, (walkL ended l k).2.2 + j) := by
  refine walk_ind (ended := ended) (C := fun l k => walkL ended l (k + j) = ((walkL ended l k).1.map (fun x => (x.1 + j, x.2)), (walkL ended l k).2.1, (walkL ended l k).2.2 + j)) ?_ ?_ ?_ ?_ l k
  · intro k; simp [walkL_nil]
  · intro l k h ih
    rw [walkL_ok k h, walkL_ok (k + j) h, show k + j + (flen l + 9) = k + (flen l + 9) + j by omega, ih]
    simp
  · intro l k hl h he
    subst he
    rw [walkL_short k h, walkL_short (k + j) h]
    simp
  · intro l k hl h h4 ih
    rw [walkL_pass k hl h h4, walkL_pass (k + j) hl h h4, show k + j + 1 = k + 1 + j by omega, ih]

theorem walk_append (m : List UInt8) (l : List UInt8) (k : Nat) : walkL false (l ++ m) k =
    ((walkL false l k).1 ++ (walkL false ((l ++ m).drop ((walkL false l k).2.2 - k)) (walkL false l k).2.2).1,
     (walkL false l k).2.1 + (walkL false ((l ++ m).drop ((walkL false l k).2.2 - k)) (walkL false l k).2.2).2.1,
     (walkL false ((l ++ m).drop ((walkL false l k).2.2 - k)) (walkL false l k).2.2).2.2) := by
  refine walk_ind (ended := false) (C := fun l k => walkL false (l ++ m) k =
    ((walkL false l k).1 ++ (walkL false ((l ++ m).drop ((walkL false l k).2.2 - k)) (walkL false l k).2.2).1,
     (walkL false l k).2.1 + (walkL false ((l ++ m).drop ((walkL false l k).2.2 - k)) (walkL false l k).2.2).2.1,
     (walkL false ((l ++ m).drop ((walkL false l k).2.2 - k)) (walkL false l k).2.2).2.2)) ?_ ?_ ?_ ?_ l k
  · intro k; simp [walkL_nil]
  · intro l k h ih
    have hz := (ferr_zero h).1
    have hf := (walk_from false (l.drop (flen l + 9)) (k + (flen l + 9))).1
    have hfa := fof_append m h
    rw [walkL_ok k h, walkL_ok (l := l ++ m) k (ferr_zero_append m h), hfa.1, hfa.2, List.drop_append_of_le_length hz, ih]
    simp only [List.cons_append]
    rw [← List.drop_append_of_le_length hz, List.drop_drop, show flen l + 9 + ((walkL false (l.drop (flen l + 9)) (k + (flen l + 9))).2.2 - (k + (flen l + 9))) = (walkL false (l.drop (flen l + 9)) (k + (flen l + 9))).2.2 - k by omega]
  · intro l k hl h _
    rw [walkL_short k h]
    simp
  · intro l k hl h h4 ih
    have h4' : ferr l ≠ 4 := fun e => by have := h4 e; cases this
    have hpos := List.length_pos_iff.2 hl
    have hf := (walk_from false (l.drop 1) (k + 1)).1
    have ha := ferr_append l m h4' hl
    rw [walkL_pass k hl h h4, walkL_pass (l := l ++ m) k (by simp [hl]) (by rw [ha]; exact h) (by rw [ha]; exact h4), List.drop_append_of_le_length (by omega : 1 ≤ l.length), ih]
    simp only
    rw [← List.drop_append_of_le_length (by omega : 1 ≤ l.length), List.drop_drop, show 1 + ((walkL false (l.drop 1) (k + 1)).2.2 - (k + 1)) = (walkL false (l.drop 1) (k + 1)).2.2 - k by omega]
    refine Prod.ext rfl (Prod.ext ?_ rfl)
    simp only; omega

/-- a frame that stands at a place is found, or hidden -/
theorem walk_finds (ended : Bool) (l : List UInt8) (k : Nat) : ∀ p, k ≤ p → ferr (l.drop (p - k)) = 0 → (walkL ended l k).2.2 ≤ p ∨ (∃ x ∈ (walkL ended l k).1, x.1 = p) ∨ (∃ x ∈ (walkL ended l k).1, x.1 < p ∧ p < fend x) := by
  refine walk_ind (ended := ended) (C := fun l k => ∀ p, k ≤ p → ferr (l.drop (p - k)) = 0 → (walkL ended l k).2.2 ≤ p ∨ (∃ x ∈ (walkL ended l k).1, x.1 = p) ∨ (∃ x ∈ (walkL ended l k).1, x.1 < p ∧ p < fend x)) ?_ ?_ ?_ ?_ l k
  · intro k p hp h; simp [ferr_nil] at h
  · intro l k h ih p hp he
    have hz := (ferr_zero h).1
    rw [walkL_ok k h]
    by_cases h1 : p = k
    · exact .inr (.inl ⟨_, List.mem_cons_self, h1.symm⟩)
    · by_cases h2 : p < k + (flen l + 9)
      · refine .inr (.inr ⟨_, List.mem_cons_self, ?_⟩)
        simp only [fend, fof_len hz]; omega
      · have := ih p (by omega) (by rw [List.drop_drop, show flen l + 9 + (p - (k + (flen l + 9))) = p - k by omega]; exact he)
        rcases this with h3 | ⟨x, h3, h4⟩ | ⟨x, h3, h4⟩
        · exact .inl h3
        · exact .inr (.inl ⟨x, List.mem_cons_of_mem _ h3, h4⟩)
        · exact .inr (.inr ⟨x, List.mem_cons_of_mem _ h3, h4⟩)
  · intro l k hl h he p hp _
    subst he
    rw [walkL_short k h]
    exact .inl hp
  · intro l k hl h h4 ih p hp he
    rw [walkL_pass k hl h h4]
    by_cases h1 : p = k
    · subst h1; simp at he; exact absurd he h
    · exact ih p (by omega) (by rw [List.drop_drop, show 1 + (p - (k + 1)) = p - k by omega]; exact he)
/-- .. and not both -/
theorem walk_once (ended : Bool) (l : List UInt8) (k p : Nat) (x : Fnd) (hx : x ∈ (walkL ended l k).1) (e : x.1 = p) : ¬ (walkL ended l k).2.2 ≤ p ∧ ¬ ∃ y ∈ (walkL ended l k).1, y.1 < p ∧ p < fend y := by
  obtain ⟨h1, h2⟩ := walk_at ended l k
  refine ⟨?_, ?_⟩
  · have := (h1 x hx).2.1; unfold fend at this; omega
  · rintro ⟨y, hy, h3, h4⟩
    obtain ⟨i, hi, rfl⟩ := List.getElem_of_mem hx
    obtain ⟨j, hj, rfl⟩ := List.getElem_of_mem hy
    rcases Nat.lt_trichotomy i j with h | h | h
    · have := (List.pairwise_iff_getElem.1 h2) i j hi hj h; unfold fend at this; omega
    · subst h; omega
    · have := (List.pairwise_iff_getElem.1 h2) j i hj hi h; omega

/-- junk in which no frame begins or could -/
theorem walk_junk (ended : Bool) (m : List UInt8) : ∀ (junk : List UInt8) (k : Nat), (∀ i, i < junk.length → ferr ((junk ++ m).drop i) ≠ 0 ∧ ferr ((junk ++ m).drop i) ≠ 4) →
    walkL ended (junk ++ m) k = ((walkL ended m (k + junk.length)).1, (walkL ended m (k + junk.length)).2.1 + junk.length, (walkL ended m (k + junk.length)).2.2) := by
  intro junk
  induction junk with
  | nil => intro k _; simp
  | cons x junk ih =>
    intro k h
    have h0 := h 0 (by simp)
    simp only [List.drop_zero] at h0
    rw [walkL_pass k (by simp) h0.1 (fun e => absurd e h0.2)]
    simp only [List.cons_append, List.drop_one, List.tail_cons]
    rw [ih (k + 1) (fun i hi => by have := h (i + 1) (by simp; omega); simpa using this)]
    rw [show k + 1 + junk.length = k + (x :: junk).length by simp; omega]
    refine Prod.ext rfl (Prod.ext ?_ rfl)
    simp; omega

/-- frames' bytes, one behind the other -/
def fjoin (fs : List Frm) : List UInt8 := fs.flatMap fput
/-- at their places -/
def fplace : Nat → List Frm → List Fnd
  | _, [] => []
  | k, f :: fs => (k, f) :: fplace (k + (f.2.length + 9)) fs
theorem walk_frames (ended : Bool) (m : List UInt8) : ∀ (fs : List Frm) (k : Nat), (∀ f ∈ fs, f.2.length ≤ 8192) →
    walkL ended (fjoin fs ++ m) k = (fplace k fs ++ (walkL ended m (k + (fjoin fs).length)).1, (walkL ended m (k + (fjoin fs).length)).2) := by
  intro fs
  induction fs with
  | nil => intro k _; simp [fjoin, fplace]
  | cons f fs ih =>
    intro k h
    obtain ⟨h1, h2, h3⟩ := fput_read f (fjoin fs ++ m) (h f List.mem_cons_self)
    have e : fjoin (f :: fs) ++ m = fput f ++ (fjoin fs ++ m) := by simp [fjoin]
    have e2 : (fput f ++ (fjoin fs ++ m)).drop (f.2.length + 9) = fjoin fs ++ m := by rw [← fput_length, List.drop_left]
    rw [e, walkL_ok k h1, h2, h3, e2, ih _ (fun g hg => h g (List.mem_cons_of_mem _ hg))]
    have e3 : k + (f.2.length + 9) + (fjoin fs).length = k + (fjoin (f :: fs)).length := by simp [fjoin, fput_length]; omega
    rw [e3]
    rfl
theorem fplace_length (k : Nat) (fs : List Frm) : (fplace k fs).length = fs.length := by
  induction fs generalizing k with
  | nil => rfl
  | cons f fs ih => simp [fplace, ih]
end Go.Proofs.YtbjoohafgkodcaaGreat
