/- hello.Ask, hello.Accept: contracts. -/
import Derived.Test.YtcjmnpcghmcodaaHe3
namespace Go.Proofs.Ytcjmnpcghmcodaa
open Go Go.RowKit Go.Shelf

def askM (lo hi : Nat) (nm : ByteArray) : Msg := ⟨1, fun i => if i = 0 then lo else if i = 1 then hi else 0, fun i => if i = 0 then nm else ⟨#[]⟩, []⟩
theorem askM_A (lo hi : Nat) (nm : ByteArray) : msgA (askM lo hi nm) (.slice none 0 0) = #[.int .u8 1, .int .u64 lo, .int .u64 hi, .int .u64 0, .int .u64 0, .int .u64 0, .int .u64 0, .string nm, .string ⟨#[]⟩, .slice none 0 0] := rfl
set_option maxRecDepth 100000 in
set_option maxHeartbeats 1000000 in
theorem ask_any (lo hi : Nat) (nm : ByteArray) (h0 : lo < 4294967296) (h1 : hi < 4294967296) (w : World) :
    Calls Try.prog 27 #[.int .u32 lo, .int .u32 hi, .string nm] w fun e w' => e = .returned (.agg (msgA (askM lo hi nm) (.slice none 0 0))) ∧ Grew w w' := by
  rw [askM_A]
  have z0 : (lo : Int) ≤ 4294967295 := by omega
  have z1 : (hi : Int) ≤ 4294967295 := by omega
  clear h0 h1
  go_enter Try.func27, Try.ntmps27
  go_upto_region 4 with (fail)
  obtain ⟨W7, hW7⟩ : ∃ W7, W7 = (w.alloc (.cells zMsg 27)).alloc (.cells #[.int .u8 1, .int .u64 lo, .int .u64 hi, .int .u64 0, .int .u64 0, .int .u64 0, .int .u64 0, .string nm, .string ⟨#[]⟩, .slice none 0 0] 27) := ⟨_, rfl⟩
  have k7 : Blk W7 (w.heap.size + 1) 27 #[.int .u8 1, .int .u64 lo, .int .u64 hi, .int .u64 0, .int .u64 0, .int .u64 0, .int .u64 0, .string nm, .string ⟨#[]⟩, .slice none 0 0] := by rw [hW7]; exact Blk.new2 _ _ _ _
  have k6 : Blk W7 w.heap.size 27 zMsg := by rw [hW7]; exact (Blk.new _ _ _).alloc _
  have g7 : Grew w W7 := by rw [hW7]; exact grew2 _ _ _
  simp only [zMsg] at hW7
  rw [← hW7]
  clear hW7
  refine wp_region_lit ?_
  refine wpList_load_row rfl 27 _ rfl (w.heap.size + 1) rfl 27 _ (0, 0) _ k7 Try.underlying27 rfl (by kernel_rfl) ?_
  refine wpList_store_row rfl 27 _ _ rfl w.heap.size _ rfl rfl 27 _ k6 (by kernel_rfl) rfl (by first | kernel_rfl | exact Eq.refl true | simp [Value.oneCell']) ?_
  go_wp2_with fail
  refine bodyPost_ret (results_cell_row rfl _ _ w.heap.size 27 _ (0, 0) _ (by kernel_rfl) (k6.row _) Try.underlying27 rfl (by kernel_rfl)) rfl ?_
  exact ⟨rfl, below_setRow g7 (Nat.le_refl _) _⟩

/-- the version of an answer to what one asked, or what is wrong -/
def accV (a m : Msg) : Nat × Nat := if a.k ≠ 1 ∨ m.k ≠ 2 then (0, 7) else if m.n 0 < max (a.n 0) 1 ∨ min (a.n 1) 3 < m.n 0 then (0, 15) else (m.n 0, 0)
set_option maxRecDepth 100000 in
set_option maxHeartbeats 1000000 in
theorem accept_any (a m : Msg) (x y : Option Addr) (cx cy : Nat) (w : World) :
    Calls Try.prog 28 #[.agg (msgA a (.slice x a.l.length cx)), .agg (msgA m (.slice y m.l.length cy))] w fun e w' => e = .returned (.tuple #[.int .i64 ((accV a m).1 : Nat), .int .i64 ((accV a m).2 : Nat)]) ∧ Grew w w' := by
  obtain ⟨R, hR⟩ : ∃ R, R = accV a m := ⟨_, rfl⟩
  rw [← hR]
  unfold accV at hR
  have HG := Lib.hid (grew2 w (.cells (msgA a (.slice x a.l.length cx)) 27) (.cells (msgA m (.slice y m.l.length cy)) 27))
  simp only [msgA] at HG ⊢
  by_cases ha : a.k = 1
  · have za : ((a.k : Int) != 1) = false := by simp; omega
    by_cases hm : m.k = 2
    · have zm : ((m.k : Int) != 2) = false := by simp; omega
      rw [if_neg (by omega)] at hR
      have HR := Lib.hid hR
      clear hR ha hm
      have h1 : m.n 0 ≤ 3 → (m.n 0 : Int) ≤ 3 := by omega
      generalize m.n 0 = n at HG HR h1 ⊢
      generalize a.n 0 = lo at HG HR ⊢
      generalize a.n 1 = hi at HG HR ⊢
      by_cases c1 : n < max lo 1
      · have HE := Lib.hid (HR.out.trans (if_pos (.inl c1)))
        go_enter Try.func28, Try.ntmps28
        go_wp2
        all_goals first
          | omega
          | (go_ret2
             exact ⟨by rw [HE.out]; rfl, HG.out⟩)
      by_cases c2 : min hi 3 < n
      · have HE := Lib.hid (HR.out.trans (if_pos (.inr c2)))
        go_enter Try.func28, Try.ntmps28
        go_wp2
        all_goals first
          | omega
          | (go_ret2
             exact ⟨by rw [HE.out]; rfl, HG.out⟩)
      have HE := Lib.hid (HR.out.trans (if_neg (by omega)))
      have h3 : (n : Int) ≤ 3 := by omega
      go_enter Try.func28, Try.ntmps28
      go_wp2
      all_goals first
        | omega
        | (go_ret2
           exact ⟨by rw [HE.out]; rfl, HG.out⟩)
    · have zm : ((m.k : Int) != 2) = true := by simp; omega
      rw [if_pos (.inr hm)] at hR
      have HR := Lib.hid hR
      clear hR hm ha
      go_enter Try.func28, Try.ntmps28
      go_wp2
      go_ret2
      exact ⟨by rw [HR.out]; rfl, HG.out⟩
  · have za : ((a.k : Int) != 1) = true := by simp; omega
    rw [if_pos (.inl ha)] at hR
    have HR := Lib.hid hR
    clear hR ha
    go_enter Try.func28, Try.ntmps28
    go_wp2
    go_ret2
    exact ⟨by rw [HR.out]; rfl, HG.out⟩
end Go.Proofs.Ytcjmnpcghmcodaa
