/- Contracts of the small functions on byte slices: rescriptref01.Same, rescriptref01.Join, bytes.Clone, bytes.Equal. -/
import Derived.Test.YtcjmnpcghmcodaaKit
import Derived.Test.YtcjmnpcghmcodaaRows
namespace Go.Proofs.Ytcjmnpcghmcodaa
open Go Go.RowKit Go.Shelf

/-- bytes as cells -/
def bv (l : List UInt8) : List Value := l.map fun x => .int .u8 (x.toNat : Int)
@[simp] theorem bv_length (l : List UInt8) : (bv l).length = l.length := by simp [bv]
theorem bv_get (l : List UInt8) (j : Nat) (h : j < l.length) : (bv l)[j]? = some (.int .u8 (l[j].toNat : Int)) := by simp [bv, h]
theorem bv_append (a b : List UInt8) : bv (a ++ b) = bv a ++ bv b := by simp [bv]
theorem bv_one (l : List UInt8) : ∀ u ∈ bv l, u.oneCell' = true := by
  intro u hu; obtain ⟨_, _, rfl⟩ := List.mem_map.1 hu; rfl
theorem u8lt (x : UInt8) : (x.toNat : Int) < 256 := by have := x.toNat_lt; omega

/-- the slice value reads as these bytes -/
abbrev Bs (w : World) (v : Value) (l : List UInt8) : Prop := Sl w v l.length 1 (bv l)
/-- a row of bytes of the call's own -/
abbrev OwnB (w : World) (base : Nat) (v : Value) (l : List UInt8) : Prop := w.ownsRow base 5 1 v l.length (bv l)

theorem bs_take {w : World} {a : Option Addr} {c : Nat} {l : List UInt8} (h : Bs w (.slice a l.length c) l) (m : Nat) (hm : m ≤ l.length) : Bs w (.slice a m c) (l.take m) := by
  have := Sl.take h m hm
  unfold Bs
  rw [List.length_take, Nat.min_eq_left hm]
  rw [Nat.mul_one] at this
  have e : (bv l).take m = bv (l.take m) := by simp [bv]
  rw [← e]; exact this
theorem info_u8 : (Try.prog.info? 5).map (fun i => (i.zero, i.size, i.bytes)) = some (some (.int .u8 0), 1, 1) := by kernel_rfl

theorem u8_ne (x y : UInt8) : ((x.toNat : Int) != (y.toNat : Int)) = (x != y) := by
  by_cases h : x = y
  · subst h; simp
  · have h' : x.toNat ≠ y.toNat := fun e => h (UInt8.toNat_inj.1 e)
    have h2 : ¬ ((x.toNat : Int) = (y.toNat : Int)) := by omega
    rw [bne_iff_ne.2 h, bne_iff_ne.2 h2]


theorem take_succ_eq {α : Type} [BEq α] [LawfulBEq α] (a b : List α) (k : Nat) (ha : k < a.length) (hb : k < b.length) (h : a.take k = b.take k) (e : a[k] = b[k]) : a.take (k + 1) = b.take (k + 1) := by
  rw [List.take_succ_eq_append_getElem ha, List.take_succ_eq_append_getElem hb, h, e]
theorem ne_of_get {α : Type} [DecidableEq α] (a b : List α) (k : Nat) (ha : k < a.length) (hb : k < b.length) (h : a[k] ≠ b[k]) : (a == b) = false := by
  rw [beq_eq_false_iff_ne]; intro e; subst e; exact h rfl
theorem ne_of_len {α : Type} [DecidableEq α] (a b : List α) (h : a.length ≠ b.length) : (a == b) = false := by
  rw [beq_eq_false_iff_ne]; intro e; subst e; exact h rfl


/-- a literal of bytes, as the walk lays it -/
theorem bs_lit (w : World) (l : List UInt8) (cs : Array Value) (n : Nat) (hn : l.length = n) (h : (bv l).toArray = cs) (hm : n ≤ 1000000000) (fr : Nat × Nat := (0, 0)) : Bs (w.alloc (.cells cs 5 fr)) (.slice (some ⟨w.heap.size, 0, none⟩) n n) l := by
  subst hn
  subst h
  have := Sl.lit w 5 fr (bv l).toArray l.length 1 (by simp) (by unfold maxLen; omega)
  exact this
theorem bs_len {w : World} {v : Value} {l : List UInt8} (h : Bs w v l) : ∃ a c, v = .slice a l.length c := by
  obtain ⟨a, c, h, _⟩ := h.open
  exact ⟨a, c, h⟩


theorem ownB_nil (w : World) (base : Nat) : OwnB w base (.slice none 0 0) [] := World.ownsRow_nil _ _ _ _



/-- the text of bytes -/
abbrev str (l : List UInt8) : Value := .string ⟨l.toArray⟩
theorem foldl_push (l : List UInt8) (s : ByteArray) : (l.map fun x => (x.toNat : Int)).foldl (fun r n => r.push (UInt8.ofNat n.toNat)) s = ⟨s.data ++ l.toArray⟩ := by
  induction l generalizing s with
  | nil => simp
  | cons x l ih =>
    simp only [List.map_cons, List.foldl_cons]
    rw [ih]
    simp [ByteArray.push]
theorem toList_mk (l : List UInt8) : (ByteArray.mk l.toArray).toList = l := by
  rw [ByteArray.toList_eq]


end Go.Proofs.Ytcjmnpcghmcodaa
