/- Contracts of slices.Grow and slices.Concat on byte slices. -/
import Derived.Test.YthjfgefkahgenaaByt
import Derived.Lib.AppendZerosOnto
import Derived.Lib.Walk
namespace Go.Proofs.Ythjfgefkahgenaa
open Go Go.RowKit Go.Shelf

/-- a slice value, its length a number of its own -/
theorem bs_shape {w : World} {v : Value} {l : List UInt8} (h : Bs w v l) : ∃ a n c, v = .slice a n c ∧ RowKit.Hid (n = l.length) := by
  obtain ⟨a, c, h⟩ := bs_len h
  exact ⟨a, _, c, h, Lib.hid rfl⟩

set_option maxHeartbeats 1000000 in
theorem grow_any (n : Nat) (w : World) (hn : n ≤ 1000000000000) :
    Calls Try.prog 63 #[.slice none 0 0, .int .i64 n] w fun e w' => ∃ v, e = .returned v ∧ OwnB w' w.heap.size v [] ∧ Grew w w' := by
  have h1 : ¬ ((n : Int) < 0) := by omega
  have h1' : decide ((n : Int) < 0) = false := by simp
  by_cases h0 : n = 0
  · subst h0
    go_enter Try.func63, Try.ntmps63
    go_wp2
    go_ret
    exact ⟨_, rfl, ownB_nil _ _, Below.refl _ _⟩
  · have h2 : decide ((n : Int) > 0) = true := by simp; omega
    obtain ⟨i0, hi, hz0, hz1, hz2⟩ := info_parts info_u8
    have hold : (Builtin.firstCells i0.size 0 (.slice none 0 0)).run Try.prog w.drew = .ok ([] : List Value).toArray w.drew := run_firstCells_none w.drew i0.size 0 0 0
    have hbig : (0 + n) * i0.bytes ≤ 140737488355328 := by rw [hz2]; omega
    have hrz : ∀ ty, (Builtin.append_ #[22, 3] ty #[.slice none 0 0, .int .i64 (n : Int)]).run Try.prog w =
        .ok (.slice (some ⟨w.heap.size, 0, none⟩) n (grownCap w n 0 5)) (w.drew.alloc (.cells (([] : List Value).toArray ++ Builtin.zeroCells (Value.int .u8 0).cells n ++ Builtin.zeroCells (Value.int .u8 0).cells (grownCap w n 0 5 - n)) 5)) := fun ty => by
      have h := Lib.run_append_grow_zeros w 22 3 ty 5 i0 (.int .u8 0) .i64 .i64 Try.underlying22 Try.underlying3 hi hz0 none 0 0 [] hold n (by omega) (by rw [hz1]; omega) (by omega) (by omega) (by rw [hz2]; omega)
        (by rw [Nat.zero_add]; exact growslice_fits (by omega) (by rw [Nat.zero_add] at hbig; exact hbig))
      rw [Nat.zero_add] at h
      exact h
    have hG63 := grownCap_le_maxLen w n 0 5 (by unfold maxLen; omega)
    have hGn : n ≤ grownCap w n 0 5 := grownCap_ge w _ _ _
    obtain ⟨G, hG⟩ : ∃ G, G = grownCap w n 0 5 := ⟨_, rfl⟩
    rw [← hG] at hrz hG63 hGn
    have hsz : (([] : List Value).toArray ++ Builtin.zeroCells (Value.int .u8 0).cells n ++ Builtin.zeroCells (Value.int .u8 0).cells (G - n)).size = G := by
      simp [Builtin.zeroCells, Value.cells]; omega
    obtain ⟨zs, hzs⟩ : ∃ zs, zs = ([] : List Value).toArray ++ Builtin.zeroCells (Value.int .u8 0).cells n ++ Builtin.zeroCells (Value.int .u8 0).cells (G - n) := ⟨_, rfl⟩
    rw [← hzs] at hrz hsz
    unfold maxLen at hG63
    clear hold hG hzs hz0 hz1 hz2 hi
    go_enter Try.func63, Try.ntmps63
    go_wp2_with (at_builtin; refine Lib.wpList_append_run _ rfl _ _ _ _ rfl _ _ rfl rfl _ _ (hrz _) ?_)
    go_ret
    refine ⟨_, rfl, ⟨rfl, .inr ⟨w.heap.size, G, zs, rfl, Nat.le_refl _, ?_, by simp, by unfold maxLen; omega, by omega, ?_⟩⟩, ?_⟩
    · exact World.alloc_heap_new w.drew _
    · simp [bv]
    · exact (Drew.grew ⟨1, rfl⟩ : Grew w w.drew).trans (grew_alloc _ _)

/-- the bytes of parts -/
def catl (ps : List (Value × List UInt8)) : List UInt8 := ps.flatMap (·.2)
theorem catl_take_succ (ps : List (Value × List UInt8)) (k : Nat) (h : k < ps.length) : catl (ps.take (k + 1)) = catl (ps.take k) ++ ps[k].2 := by
  unfold catl; rw [List.take_succ_eq_append_getElem h, List.flatMap_append]; simp
theorem catl_take_le (ps : List (Value × List UInt8)) (k : Nat) : (catl (ps.take k)).length ≤ (catl ps).length := by
  have : catl ps = catl (ps.take k) ++ catl (ps.drop k) := by
    unfold catl; rw [← List.flatMap_append, List.take_append_drop]
  rw [this, List.length_append]; omega
set_option maxHeartbeats 1000000 in
theorem concat_any (ps : List (Value × List UInt8)) (sv : Value) (w : World) (hs : Sl w sv ps.length 1 (ps.map (·.1))) (hp : ∀ p ∈ ps, Bs w p.1 p.2) (hlen : (catl ps).length ≤ 1000000000000) :
    Calls Try.prog 58 #[sv] w fun e w' => ∃ v, e = .returned v ∧ OwnB w' w.heap.size v (catl ps) ∧ Grew w w' := by
  obtain ⟨sa, sc, rfl, s1, s2, -, sh⟩ := hs.open
  unfold maxLen at s2
  go_enter Try.func58, Try.ntmps58
  go_wp2
  go_loop [3, 11] (fun s i => ∃ k : Nat, k ≤ ps.length ∧ i = .int .i64 k ∧ s = .int .i64 (catl (ps.take k)).length) (fun _ i => ps.length - (intOf i).toNat)
  case atStart => exact ⟨0, Nat.zero_le _, rfl, rfl⟩
  case round =>
    obtain ⟨k, hk, rfl, rfl⟩ := hrel
    by_cases hlt : k < ps.length
    · obtain ⟨b1, o1, rfl, h1⟩ := sh (by omega)
      have c1 := h1 k ps[k].1 (by simp [hlt])
      have hb := hp ps[k] (List.getElem_mem hlt)
      have hl := catl_take_succ ps k hlt
      have hle := catl_take_le ps (k + 1)
      rw [hl, List.length_append] at hle
      obtain ⟨xa, xc, hx⟩ := bs_len hb
      rw [hx] at c1
      have hlt2 : ¬ (((catl (ps.take k)).length : Int) + (ps[k].2.length : Int) < 0) := by omega
      have hlt3 : decide (((catl (ps.take k)).length : Int) + (ps[k].2.length : Int) < 0) = false := by simp; omega
      have H := Lib.hid hl
      have H2 := Lib.hid hs
      have H3 := Lib.hid hp
      have H4 := Lib.hid hb
      clear h1 sh hl hs hp hb
      go_wp2
      go_round
      case rel => exact ⟨k + 1, by omega, by go_num, by rw [H.out, List.length_append]; push_cast; rfl⟩
      case measure => simp [intOf]; omega
    · obtain rfl : k = ps.length := by omega
      rw [List.take_length]
      go_wp2_with fail
      refine (grow_any _ _ hlen).mono ?_
      rintro e w1 ⟨v1, rfl, ho1, hg1⟩
      go_wp2_with fail
      go_loopw [6, 27] (fun v i wr => ∃ k : Nat, k ≤ ps.length ∧ i = .int .i64 k ∧ OwnB wr w.heap.size v (catl (ps.take k)) ∧ Grew w wr) (fun _ i _ => ps.length - (intOf i).toNat)
      case atStart => exact ⟨0, Nat.zero_le _, rfl, ho1, hg1⟩
      case round =>
        obtain ⟨k, hk, rfl, hown, hB⟩ := hrel
        by_cases hlt : k < ps.length
        · obtain ⟨b1, o1, rfl, h1⟩ := sh (by omega)
          have c1 := (below_ext hB) _ _ (h1 k ps[k].1 (by simp [hlt]))
          have hb := (hp ps[k] (List.getElem_mem hlt)).grew hB
          have hl := catl_take_succ ps k hlt
          have hle := catl_take_le ps (k + 1)
          rw [hl, List.length_append] at hle
          have H := Lib.hid hl
          have H2 := Lib.hid hs
          have H3 := Lib.hid hp
          clear h1 sh hl hs hp
          go_wp2_with (at_builtin; refine wpList_push rfl _ _ rfl w.heap.size _ _ rfl hown _ rfl ps[k].2 hb (by omega) hB.size ?_; intro v' w1 hown1 hB1 _)
          go_roundw
          case rel => exact ⟨k + 1, by omega, by go_num, by rw [H.out]; exact hown1, Below.trans hB hB1⟩
          case measure => simp [intOf]; omega
        · obtain rfl : k = ps.length := by omega
          rw [List.take_length] at hown
          go_wp2
          go_ret
          exact ⟨_, rfl, hown, hB⟩
end Go.Proofs.Ythjfgefkahgenaa
