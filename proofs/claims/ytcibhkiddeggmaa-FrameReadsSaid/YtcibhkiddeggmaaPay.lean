/- Bytes that are read, in a block of their own; slices of slices of bytes. No statement of the program. -/
import Derived.Test.YtcibhkiddeggmaaByt
namespace Go.Proofs.Ytcibhkiddeggmaa
open Go Go.RowKit Go.Shelf

/-- a slice value, its length a number of its own -/
theorem bs_shape {w : World} {v : Value} {l : List UInt8} (h : Bs w v l) : ∃ a n c, v = .slice a n c ∧ RowKit.Hid (n = l.length) := by
  obtain ⟨a, c, h⟩ := bs_len h
  exact ⟨a, _, c, h, Lib.hid rfl⟩

/-- bytes that are read, in a block of bytes that is not below base -/
def PayV (w : World) (base : Nat) (v : Value) (l : List UInt8) : Prop := Bs w v l ∧ ∀ g, Value.blk v = some g → base ≤ g ∧ ∃ cs, Blk w g 5 cs
theorem PayV.bs {w : World} {base : Nat} {v : Value} {l : List UInt8} (h : PayV w base v l) : Bs w v l := h.1
theorem PayV.mono {w : World} {base base' : Nat} {v : Value} {l : List UInt8} (h : PayV w base v l) (hb : base' ≤ base) : PayV w base' v l := ⟨h.1, fun g hg => ⟨by have := (h.2 g hg).1; omega, (h.2 g hg).2⟩⟩
theorem PayV.grew {w w' : World} {base : Nat} {v : Value} {l : List UInt8} (h : PayV w base v l) (hg : Grew w w') : PayV w' base v l :=
  ⟨h.1.grew hg, fun g e => ⟨(h.2 g e).1, by obtain ⟨cs, hc⟩ := (h.2 g e).2; exact ⟨cs, hc.grew hg⟩⟩⟩
theorem PayV.nil (w : World) (base : Nat) : PayV w base (.slice none 0 0) [] := ⟨Sl.nil w 1, fun g h => by cases h⟩
theorem PayV.of_own {w : World} {base : Nat} {v : Value} {l : List UInt8} (h : OwnB w base v l) : PayV w base v l := by
  refine ⟨Sl.of_own h, fun g hg => ?_⟩
  rcases h.2 with ⟨rfl, _⟩ | ⟨g', cap, cur, rfl, hb, hh, _⟩
  · cases hg
  · cases hg; exact ⟨hb, cur, hh⟩
/-- other blocks may turn -/
theorem PayV.fr {S : Nat → Prop} {w w' : World} {base : Nat} {v : Value} {l : List UInt8} (h : PayV w base v l) (hf : Fr S w w') (hs : ∀ g, Value.blk v = some g → ¬ S g) : PayV w' base v l :=
  ⟨h.1.fr hf fun g hg _ => hs g hg, fun g e => ⟨(h.2 g e).1, by obtain ⟨cs, hc⟩ := (h.2 g e).2; exact ⟨cs, hc.fr hf (hs g e)⟩⟩⟩
/-- v[m:] -/
theorem bs_drop {w : World} {b off : Nat} {n c : Nat} {l : List UInt8} (h : Bs w (.slice (some ⟨b, off, none⟩) n c) l) (m : Nat) (hm : m ≤ n) : Bs w (.slice (some ⟨b, off + m, none⟩) (n - m) (c - m)) (l.drop m) := by
  obtain ⟨hl, a, c', e, h1, h2, h3, h4⟩ := h
  cases e
  refine ⟨by simp, some ⟨b, off + m, none⟩, c - m, ?_, by simp; omega, by omega, (fun h => by cases h), ?_⟩
  · rw [List.length_drop]
  · rintro ad had j u hu
    cases had
    have := h4 _ rfl (m + j) u (by rw [← hu]; simp [bv, List.getElem?_drop])
    rw [Addr.add_lit] at this ⊢
    rwa [show off + m + j = off + (m + j) by omega]
/-- v[i:j] -/
theorem bs_cut {w : World} {b off : Nat} {n c : Nat} {l : List UInt8} (h : Bs w (.slice (some ⟨b, off, none⟩) n c) l) (i j : Nat) (hij : i ≤ j) (hj : j ≤ n) : Bs w (.slice (some ⟨b, off + i, none⟩) (j - i) (c - i)) ((l.drop i).take (j - i)) := by
  have hn : n = l.length := by obtain ⟨_, _, _, e, _⟩ := h; cases e; rfl
  have h1 := bs_drop h i (by omega)
  have e : n - i = (l.drop i).length := by rw [List.length_drop]; omega
  rw [e] at h1
  exact bs_take h1 (j - i) (by rw [← e]; omega)
/-- .. as the model spells it: at the end of the array the pointer stays -/
theorem bs_dropI {w : World} {b off : Nat} {n c : Nat} {l : List UInt8} (h : Bs w (.slice (some ⟨b, off, none⟩) n c) l) (m : Nat) (hm : m ≤ n) : Bs w (.slice (if c = m then some ⟨b, off, none⟩ else some ⟨b, off + m, none⟩) (n - m) (c - m)) (l.drop m) := by
  by_cases e : c = m
  · rw [if_pos e]
    obtain ⟨hl, a, c', e', h1, h2, h3, h4⟩ := h
    cases e'
    have hd : l.drop m = [] := List.drop_eq_nil_of_le (by omega)
    rw [hd]
    refine ⟨rfl, some ⟨b, off, none⟩, c - m, ?_, by simp, by omega, (fun h => by cases h), ?_⟩
    · rw [show l.length - m = ([] : List UInt8).length by simp; omega]
    · rintro ad had j u hu; cases hu
  · rw [if_neg e]; exact bs_drop h m hm
theorem blk_type {w : World} {b : Nat} {t t' : TypeId} {cs cs' : Array Value} (h : Blk w b t cs) (k : Blk w b t' cs') : t = t' := by
  have := (show w.heap[b]? = _ from h).symm.trans k
  simp at this; exact this.2
theorem PayV.ne {w : World} {base : Nat} {v : Value} {l : List UInt8} (h : PayV w base v l) {b : Nat} {t : TypeId} {cs : Array Value} (hb : Blk w b t cs) (ht : t ≠ 5) : ∀ g, Value.blk v = some g → g ≠ b := by
  rintro g hg rfl
  obtain ⟨_, cs, hc⟩ := h.2 g hg
  exact ht (blk_type hb hc)
theorem PayV.shape {W : World} {base : Nat} {v : Value} {l : List UInt8} (h : PayV W base v l) : ∃ a n c, v = .slice a n c ∧ RowKit.Hid (n = l.length) := bs_shape h.1
theorem PayV.below {W W' : World} {base : Nat} {v : Value} {l : List UInt8} (h : PayV W base v l) {row : Option Nat} (hg : W.grownBy W' row) (hs : ∀ g, Value.blk v = some g → some g ≠ row) : PayV W' base v l :=
  h.fr (S := fun k => row = some k) (Fr.of_grown hg fun _ e => e) fun g hg e => hs g hg e.symm
theorem row_ne {W : World} {base : Nat} {e : TypeId} {size : Nat} {v : Value} {n : Nat} {xs : List Value} (h : W.ownsRow base e size v n xs) (he : e ≠ 5) {base' : Nat} {u : Value} {l : List UInt8} (hp : PayV W base' u l) : ∀ g, Value.blk u = some g → some g ≠ v.ownBlock := by
  intro g hg e'
  rcases h.2 with ⟨rfl, _⟩ | ⟨g', cap, cur, rfl, _, hgb, _⟩
  · cases e'
  · obtain rfl : g = g' := by simpa [Value.ownBlock] using e'
    obtain ⟨_, cs, hc⟩ := hp.2 g hg
    exact he (blk_type hgb hc)
theorem PayV.ck {n base : Nat} {W W' : World} {v : Value} {l : List UInt8} (h : PayV W base v l) (hc : CK n W W') : PayV W' base v l :=
  ⟨h.1.ext hc.ext, fun g e => ⟨(h.2 g e).1, by obtain ⟨cs, hb⟩ := (h.2 g e).2; exact ⟨cs, hc.blk hb⟩⟩⟩
/-- a cell of another kind is set -/
theorem PayV.set {W : World} {base : Nat} {v : Value} {l : List UInt8} (h : PayV W base v l) {b : Nat} {t : TypeId} {cs : Array Value} (hb : Blk W b t cs) (ht : t ≠ 5) (j : Nat) (u : Value) : PayV (W.setCell ⟨b, j, none⟩ u) base v l :=
  h.fr ((Fr.refl (· = b) W).set b j u (fun _ => rfl)) (h.ne hb ht)
/-- a scope without a jump, at the wide fence -/
theorem wpIn_scope_wide {n : Nat} {P : Program} {Q : Exit → Act → World → Prop} {a : Act} {w : World} {c : Code} (h : c.wpIn Fence.wide n P (Exit.noGoto Q) a w) : (Code.scope c).wpIn Fence.wide n P Q a w := wpIn_wide.2 (wp_scope_straight (wpIn_wide.1 h))
/-- a cell of a row whose elements have k cells each -/
theorem flat_at {α : Type} {f : α → List Value} {k : Nat} (hf : ∀ x, (f x).length = k) : ∀ (l : List α) (j : Nat) (hj : j < l.length) (i : Nat), i < k → (l.flatMap f)[j * k + i]? = (f l[j])[i]?
  | x :: l, 0, _, i, hi => by
    rw [Nat.zero_mul, Nat.zero_add, List.flatMap_cons, List.getElem?_append_left (by rw [hf]; exact hi)]; rfl
  | x :: l, j + 1, hj, i, hi => by
    rw [List.flatMap_cons, List.getElem?_append_right (by rw [hf, Nat.add_mul]; omega), hf, show (j + 1) * k + i - k = j * k + i by rw [Nat.add_mul]; omega, flat_at hf l j (by simpa using hj) i hi]; rfl
  | [], _, hj, _, _ => by simp at hj
theorem ne_getB {α : Type} [BEq α] [LawfulBEq α] (a b : List α) (k : Nat) (ha : k < a.length) (hb : k < b.length) (h : a[k] ≠ b[k]) : (a == b) = false := by
  rw [beq_eq_false_iff_ne]; intro e; subst e; exact h rfl
theorem ne_lenB {α : Type} [BEq α] [LawfulBEq α] (a b : List α) (h : a.length ≠ b.length) : (a == b) = false := by
  rw [beq_eq_false_iff_ne]; intro e; subst e; exact h rfl
theorem i64_ne (a b : Nat) : ((a : Int) != (b : Int)) = !(a == b) := by
  by_cases h : a = b
  · subst h; simp
  · have h2 : ¬ ((a : Int) = (b : Int)) := by omega
    rw [bne_iff_ne.2 h2, beq_eq_false_iff_ne.2 h]; rfl
end Go.Proofs.Ytcibhkiddeggmaa
