/- Messages in plain words: their places, what is wrong with them, cleaning. No walk. -/
import Derived.Test.YtgoaijpckckdnaaSch
import Derived.Test.YtgoaijpckckdnaaUtf
import Derived.Test.YtgoaijpckckdnaaArr
namespace Go.Proofs.Ytgoaijpckckdnaa
open Go Go.RowKit Go.Shelf

/-- a message: kind, numbers, texts, list -/
structure Msg where
  k : Nat
  n : Nat → Nat
  s : Nat → ByteArray
  l : List ByteArray
def msgA (m : Msg) (lv : Value) : Array Value := #[.int .u8 m.k, .int .u64 (m.n 0), .int .u64 (m.n 1), .int .u64 (m.n 2), .int .u64 (m.n 3), .int .u64 (m.n 4), .int .u64 (m.n 5), .string (m.s 0), .string (m.s 1), lv]
def nL (m : Msg) : List Int := [(m.n 0 : Int), (m.n 1 : Int), (m.n 2 : Int), (m.n 3 : Int), (m.n 4 : Int), (m.n 5 : Int)]
def sL (m : Msg) : List ByteArray := [m.s 0, m.s 1]
def sameB (a b : Msg) : Bool := a.k == b.k && (nL a == nL b) && (sL a == sL b) && (a.l == b.l)
/-- texts that are read -/
abbrev Tx (w : World) (v : Value) (l : List ByteArray) : Prop := Sl w v l.length 1 (l.map Value.string)
abbrev OwnT (w : World) (base : Nat) (v : Value) (l : List ByteArray) : Prop := w.ownsRow base 9 1 v l.length (l.map Value.string)

/-! ## places -/
def numB (t : Int) : Bool := decide (1 ≤ t) && decide (t ≤ 6)
def txtB (t : Int) : Bool := decide (7 ≤ t) && decide (t ≤ 9)
def plN (m : Msg) (t sl : Int) : Nat := if numB t = true ∧ 0 ≤ sl ∧ sl < 6 then m.n sl.toNat else 0
def plS (m : Msg) (t sl : Int) : ByteArray := if txtB t = true ∧ 0 ≤ sl ∧ sl < 2 then m.s sl.toNat else ⟨#[]⟩
def plL (m : Msg) (t : Int) : List ByteArray := if t = 10 then m.l else []
def defB (m : Msg) (t sl : Int) : Bool := plN m t sl == 0 && (plS m t sl).toList.isEmpty && (plL m t).length == 0
def intV (m : Msg) (sl : Int) : Int := if 0 ≤ sl ∧ sl < 6 then wrap64 (m.n sl.toNat) else 0
theorem int6 {sl : Int} (h0 : 0 ≤ sl) (h6 : sl < 6) : sl = 0 ∨ sl = 1 ∨ sl = 2 ∨ sl = 3 ∨ sl = 4 ∨ sl = 5 := by omega
theorem def_num {m : Msg} {t sl : Int} (h : numB t = true) (h0 : 0 ≤ sl) (h6 : sl < 6) : defB m t sl = (m.n sl.toNat == 0) := by
  have ht : txtB t = false := by unfold numB at h; unfold txtB; simp at h ⊢; omega
  have h10 : t ≠ 10 := by unfold numB at h; simp at h; omega
  unfold defB plN plS plL
  rw [if_pos ⟨h, h0, h6⟩, if_neg (by rw [ht]; simp), if_neg h10]
  simp [ByteArray.toList_eq]
theorem def_txt {m : Msg} {t sl : Int} (h : txtB t = true) (h0 : 0 ≤ sl) (h2 : sl < 2) : defB m t sl = (m.s sl.toNat).toList.isEmpty := by
  have ht : numB t = false := by unfold txtB at h; unfold numB; simp at h ⊢; omega
  have h10 : t ≠ 10 := by unfold txtB at h; simp at h; omega
  unfold defB plN plS plL
  rw [if_neg (show ¬ (numB t = true ∧ 0 ≤ sl ∧ sl < 6) from by rw [ht]; simp), if_pos ⟨h, h0, h2⟩, if_neg h10]
  simp
theorem def_list {m : Msg} {sl : Int} : defB m 10 sl = (m.l.length == 0) := by
  unfold defB plN plS plL
  rw [if_neg (by simp [numB]), if_neg (by simp [txtB]), if_pos rfl]
  simp [ByteArray.toList_eq]
theorem def_other {m : Msg} {t sl : Int} (hn : ¬ (numB t = true ∧ 0 ≤ sl ∧ sl < 6)) (ht : ¬ (txtB t = true ∧ 0 ≤ sl ∧ sl < 2)) (h10 : t ≠ 10) : defB m t sl = true := by
  unfold defB plN plS plL
  rw [if_neg hn, if_neg ht, if_neg h10]
  simp [ByteArray.toList_eq]
end Go.Proofs.Ytgoaijpckckdnaa
