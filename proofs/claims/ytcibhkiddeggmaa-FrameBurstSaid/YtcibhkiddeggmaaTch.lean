/- What turns, told by the types of blocks. No statement of the program. -/
import Derived.Test.YtcibhkiddeggmaaPay
namespace Go.Proofs.Ytcibhkiddeggmaa
open Go Go.RowKit Go.Shelf

/-- blocks of these types stay -/
def KeepT (S : TypeId → Prop) (A B : World) : Prop := A.heap.size ≤ B.heap.size ∧ ∀ (b : Nat) (cs : Array Value) (t : TypeId) (fr : Nat × Nat), S t → A.heap[b]? = some (.cells cs t fr) → B.heap[b]? = some (.cells cs t fr)
theorem KeepT.trans {S : TypeId → Prop} {a b c : World} (h : KeepT S a b) (k : KeepT S b c) : KeepT S a c := ⟨Nat.le_trans h.1 k.1, fun x cs t fr ht hx => k.2 x cs t fr ht (h.2 x cs t fr ht hx)⟩
theorem KeepT.of_grew {S : TypeId → Prop} {a b : World} (h : Grew a b) : KeepT S a b := ⟨h.size, fun x _ _ _ _ hx => (h.block x (Array.getElem?_eq_some_iff.1 hx).1).trans hx⟩
theorem KeepT.ck {S : TypeId → Prop} {n : Nat} {a b c : World} (h : KeepT S a b) (k : CK n b c) : KeepT S a c := ⟨Nat.le_trans h.1 k.size, fun x cs t fr ht hx => k.heap (h.2 x cs t fr ht hx)⟩
theorem KeepT.blk {S : TypeId → Prop} {a b : World} (h : KeepT S a b) {p : Nat} {t : TypeId} {cs : Array Value} (hb : Blk a p t cs) (ht : S t) : Blk b p t cs := h.2 p cs t (0, 0) ht hb
theorem KeepT.own {S : TypeId → Prop} {a b : World} (h : KeepT S a b) {base : Nat} {e : TypeId} {size : Nat} {v : Value} {n : Nat} {xs : List Value} (hr : a.ownsRow base e size v n xs) (ht : S e) : b.ownsRow base e size v n xs := by
  obtain ⟨hl, hr⟩ := hr
  refine ⟨hl, ?_⟩
  rcases hr with hr | ⟨g, cap, cur, rfl, hbg, hg, rest⟩
  · exact .inl hr
  · exact .inr ⟨g, cap, cur, rfl, hbg, h.2 g _ _ _ ht hg, rest⟩
theorem KeepT.set {S : TypeId → Prop} {a b : World} (h : KeepT S a b) {p : Nat} {t : TypeId} {cs : Array Value} (hb : Blk b p t cs) (ht : ¬ S t) (j : Nat) (v : Value) : KeepT S a (b.setCell ⟨p, j, none⟩ v) := by
  refine ⟨by simpa using h.1, fun x xs u fr hu hx => ?_⟩
  have h1 := h.2 x xs u fr hu hx
  have hne : x ≠ p := by
    rintro rfl
    have := (show b.heap[x]? = _ from hb).symm.trans h1
    simp at this
    exact ht (this.2.1 ▸ hu)
  exact (heap_setCell_other b ⟨p, j, none⟩ x v hne).trans h1
theorem KeepT.grown {S : TypeId → Prop} {a b c : World} (h : KeepT S a b) {base : Nat} {e : TypeId} {size : Nat} {v : Value} {n : Nat} {xs : List Value} (hr : b.ownsRow base e size v n xs) (ht : ¬ S e) (hg : b.grownBy c v.ownBlock) : KeepT S a c := by
  refine ⟨Nat.le_trans h.1 hg.size, fun x cs t fr hu hx => ?_⟩
  have h1 := h.2 x cs t fr hu hx
  refine (hg.block x (Array.getElem?_eq_some_iff.1 h1).1 ?_).trans h1
  rcases hr.2 with ⟨rfl, _⟩ | ⟨g, cap, cur, rfl, _, hgb, _⟩
  · simp [Value.ownBlock]
  · intro e'
    obtain rfl : x = g := by simpa [Value.ownBlock] using e'
    rw [h1] at hgb
    simp at hgb
    exact ht (hgb.2.1 ▸ hu)

/-- only blocks of cells of these types may turn, and none below n -/
structure Tch (S : TypeId → Prop) (n : Nat) (A B : World) : Prop where
  below : Below n A B
  keep : ∀ (k : Nat) (o : Obj), A.heap[k]? = some o → (∀ cs t fr, o = .cells cs t fr → ¬ S t) → B.heap[k]? = some o
theorem Tch.refl (S : TypeId → Prop) (n : Nat) (A : World) : Tch S n A A := ⟨Below.refl _ _, fun _ _ h _ => h⟩
theorem Tch.trans {S : TypeId → Prop} {n : Nat} {a b c : World} (h : Tch S n a b) (k : Tch S n b c) : Tch S n a c := ⟨h.below.trans k.below, fun i o hi ho => k.keep i o (h.keep i o hi ho) ho⟩
theorem Tch.of_grew {S : TypeId → Prop} {n : Nat} {a b : World} (h : Grew a b) (hn : n ≤ a.heap.size) : Tch S n a b := ⟨h.mono hn, fun i _ hi _ => (h.block i (Array.getElem?_eq_some_iff.1 hi).1).trans hi⟩
theorem Tch.of_fr {S : TypeId → Prop} {n p : Nat} {a b : World} {t : TypeId} {cs : Array Value} (h : Fr (· = p) a b) (hb : Blk a p t cs) (ht : S t) (hp : n ≤ p) : Tch S n a b := by
  refine ⟨h.below (by have := hb.lt; omega) (fun i e => by omega), fun i o hi ho => ?_⟩
  have hne : i ≠ p := by
    rintro rfl
    have := (show a.heap[i]? = _ from hb).symm.trans hi
    simp at this
    exact ho cs t (0, 0) this.symm ht
  exact (h.block i (Array.getElem?_eq_some_iff.1 hi).1 hne).trans hi
theorem Tch.keeps {S : TypeId → Prop} {n : Nat} {a b : World} (h : Tch S n a b) : KeepsOthers a b := ⟨h.below.size, fun k o hk ho => h.keep k o hk (fun cs t fr e => by subst e; cases ho)⟩
theorem Tch.blk {S : TypeId → Prop} {n : Nat} {a b : World} (h : Tch S n a b) {p : Nat} {t : TypeId} {cs : Array Value} (hb : Blk a p t cs) (ht : ¬ S t) : Blk b p t cs := h.keep p _ hb (fun cs' t' fr e => by cases e; exact ht)
theorem Tch.own {S : TypeId → Prop} {m : Nat} {a b : World} (h : Tch S m a b) {base : Nat} {e : TypeId} {size : Nat} {v : Value} {n : Nat} {xs : List Value} (hr : a.ownsRow base e size v n xs) (ht : ¬ S e) : b.ownsRow base e size v n xs := by
  obtain ⟨hl, hr⟩ := hr
  refine ⟨hl, ?_⟩
  rcases hr with hr | ⟨g, cap, cur, rfl, hbg, hg, rest⟩
  · exact .inl hr
  · exact .inr ⟨g, cap, cur, rfl, hbg, h.keep g _ hg (fun cs' t' fr e => by cases e; exact ht), rest⟩
theorem PayV.tch {S : TypeId → Prop} {m base : Nat} {a b : World} {v : Value} {l : List UInt8} (h : PayV a base v l) (ht : Tch S m a b) (hS : ¬ S 5) : PayV b base v l := by
  refine ⟨?_, fun g e => ⟨(h.2 g e).1, by obtain ⟨cs, hc⟩ := (h.2 g e).2; exact ⟨cs, ht.blk hc hS⟩⟩⟩
  obtain ⟨hl, ad, cap, rfl, h1, h2, h3, h4⟩ := h.1
  refine ⟨hl, ad, cap, rfl, h1, h2, h3, ?_⟩
  rintro x rfl j u hu
  obtain ⟨_, cs, hc⟩ := h.2 x.block rfl
  have hcell := h4 x rfl j u hu
  rw [World.cell?_of_block (w := a) ?_]
  · exact hcell
  · rw [add_block]; exact (ht.blk hc hS).trans hc.symm
theorem PayV.keepT {S : TypeId → Prop} {base : Nat} {a b : World} {v : Value} {l : List UInt8} (h : PayV a base v l) (ht : KeepT S a b) (hS : S 5) : PayV b base v l := by
  refine ⟨?_, fun g e => ⟨(h.2 g e).1, by obtain ⟨cs, hc⟩ := (h.2 g e).2; exact ⟨cs, ht.blk hc hS⟩⟩⟩
  obtain ⟨hl, ad, cap, rfl, h1, h2, h3, h4⟩ := h.1
  refine ⟨hl, ad, cap, rfl, h1, h2, h3, ?_⟩
  rintro x rfl j u hu
  obtain ⟨_, cs, hc⟩ := h.2 x.block rfl
  have hcell := h4 x rfl j u hu
  rw [World.cell?_of_block (w := a) ?_]
  · exact hcell
  · rw [add_block]; exact (ht.blk hc hS).trans hc.symm
end Go.Proofs.Ytcibhkiddeggmaa
