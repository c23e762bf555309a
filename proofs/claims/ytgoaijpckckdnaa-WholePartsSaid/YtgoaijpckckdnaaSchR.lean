/- The reference of layer 8: Rows, Of, Find, Specs: contracts. -/
import Derived.Test.YtgoaijpckckdnaaSchF
namespace Go.Proofs.Ytgoaijpckckdnaa
open Go Go.RowKit Go.Shelf

def rrowV (r : Row) : List Value := [.int .i64 r.2.1, .int .i64 r.2.2.1, .int .i64 r.2.2.2.1, .int .i64 r.2.2.2.2]
def rrowsV (l : List Row) : List Value := l.flatMap rrowV
abbrev Rs (w : World) (v : Value) (l : List Row) : Prop := Sl w v l.length 4 (rrowsV l)
theorem rs_lit (w : World) (l : List Row) (cs : Array Value) (n : Nat) (hn : l.length = n) (hc : cs = (rrowsV l).toArray) (hs : cs.size = n * 4) (hm : n ≤ 1000) : Rs (w.alloc (.cells cs 154)) (.slice (some ⟨w.heap.size, 0, none⟩) n n) l := by
  subst hn
  have := Sl.lit w 154 (0, 0) cs l.length 4 hs (by unfold maxLen; omega)
  rw [hc] at this ⊢
  exact this

set_option maxRecDepth 10000 in
set_option maxHeartbeats 4000000 in
theorem rrows_any (k : Nat) (w : World) : Calls Try.prog 126 #[.int .u8 k] w fun e w' => ∃ v, e = .returned v ∧ Rs w' v (ofKind k rowsAll) ∧ Grew w w' := by
  by_cases h1 : k = 1
  · subst h1
    go_enter Try.func126, Try.ntmps126
    go_wp2
    go_ret
    exact ⟨_, rfl, rs_lit w (ofKind 1 rowsAll) _ 3 (by kernel_rfl) (by kernel_rfl) (by kernel_rfl) (by omega), grew_alloc _ _⟩
  by_cases h2 : k = 2
  · subst h2
    go_enter Try.func126, Try.ntmps126
    go_wp2
    go_ret
    exact ⟨_, rfl, rs_lit w (ofKind 2 rowsAll) _ 3 (by kernel_rfl) (by kernel_rfl) (by kernel_rfl) (by omega), grew_alloc _ _⟩
  by_cases h3 : k = 3
  · subst h3
    go_enter Try.func126, Try.ntmps126
    go_wp2
    go_ret
    exact ⟨_, rfl, rs_lit w (ofKind 3 rowsAll) _ 3 (by kernel_rfl) (by kernel_rfl) (by kernel_rfl) (by omega), grew_alloc _ _⟩
  by_cases h4 : k = 4
  · subst h4
    go_enter Try.func126, Try.ntmps126
    go_wp2
    go_ret
    exact ⟨_, rfl, rs_lit w (ofKind 4 rowsAll) _ 4 (by kernel_rfl) (by kernel_rfl) (by kernel_rfl) (by omega), grew_alloc _ _⟩
  by_cases h5 : k = 5
  · subst h5
    go_enter Try.func126, Try.ntmps126
    go_wp2
    go_ret
    exact ⟨_, rfl, rs_lit w (ofKind 5 rowsAll) _ 7 (by kernel_rfl) (by kernel_rfl) (by kernel_rfl) (by omega), grew_alloc _ _⟩
  by_cases h6 : k = 6
  · subst h6
    go_enter Try.func126, Try.ntmps126
    go_wp2
    go_ret
    exact ⟨_, rfl, rs_lit w (ofKind 6 rowsAll) _ 7 (by kernel_rfl) (by kernel_rfl) (by kernel_rfl) (by omega), grew_alloc _ _⟩
  by_cases h7 : k = 7
  · subst h7
    go_enter Try.func126, Try.ntmps126
    go_wp2
    go_ret
    exact ⟨_, rfl, rs_lit w (ofKind 7 rowsAll) _ 2 (by kernel_rfl) (by kernel_rfl) (by kernel_rfl) (by omega), grew_alloc _ _⟩
  by_cases h8 : k = 8
  · subst h8
    go_enter Try.func126, Try.ntmps126
    go_wp2
    go_ret
    exact ⟨_, rfl, rs_lit w (ofKind 8 rowsAll) _ 1 (by kernel_rfl) (by kernel_rfl) (by kernel_rfl) (by omega), grew_alloc _ _⟩
  by_cases h9 : k = 9
  · subst h9
    go_enter Try.func126, Try.ntmps126
    go_wp2
    go_ret
    exact ⟨_, rfl, rs_lit w (ofKind 9 rowsAll) _ 6 (by kernel_rfl) (by kernel_rfl) (by kernel_rfl) (by omega), grew_alloc _ _⟩
  by_cases h10 : k = 10
  · subst h10
    go_enter Try.func126, Try.ntmps126
    go_wp2
    go_ret
    exact ⟨_, rfl, rs_lit w (ofKind 10 rowsAll) _ 4 (by kernel_rfl) (by kernel_rfl) (by kernel_rfl) (by omega), grew_alloc _ _⟩
  have hr : ofKind k rowsAll = [] := by
    unfold ofKind
    rw [List.filter_eq_nil_iff]
    intro r hr
    have : r.1 = 1 ∨ r.1 = 2 ∨ r.1 = 3 ∨ r.1 = 4 ∨ r.1 = 5 ∨ r.1 = 6 ∨ r.1 = 7 ∨ r.1 = 8 ∨ r.1 = 9 ∨ r.1 = 10 := by
      revert r; decide
    simp; omega
  have e1 : ((k : Int) == 1) = false := by simp; omega
  have e2 : ((k : Int) == 2) = false := by simp; omega
  have e3 : ((k : Int) == 3) = false := by simp; omega
  have e4 : ((k : Int) == 4) = false := by simp; omega
  have e5 : ((k : Int) == 5) = false := by simp; omega
  have e6 : ((k : Int) == 6) = false := by simp; omega
  have e7 : ((k : Int) == 7) = false := by simp; omega
  have e8 : ((k : Int) == 8) = false := by simp; omega
  have e9 : ((k : Int) == 9) = false := by simp; omega
  have e10 : ((k : Int) == 10) = false := by simp; omega
  rw [hr]
  clear hr h1 h2 h3 h4 h5 h6 h7 h8 h9 h10
  go_enter Try.func126, Try.ntmps126
  go_wp2
  go_ret
  exact ⟨_, rfl, Sl.nil _ _, Below.refl _ _⟩
end Go.Proofs.Ytgoaijpckckdnaa
