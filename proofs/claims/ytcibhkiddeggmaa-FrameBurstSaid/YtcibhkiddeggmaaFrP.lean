/- Contracts of package frame and of rescriptref13. ; Contracts of slices.Grow and slices.Concat on byte slices. -/
import Derived.Test.YtcibhkiddeggmaaPay
import Derived.Lib.AppendZerosOnto
import Derived.Lib.Walk
import Derived.Test.YtcibhkiddeggmaaFrL
namespace Go.Proofs.Ytcibhkiddeggmaa
open Go Go.RowKit Go.Shelf

set_option maxHeartbeats 1000000 in
theorem grow_any (n : Nat) (w : World) (hn : n ≤ 1000000000000) :
    Calls Try.prog 67 #[.slice none 0 0, .int .i64 n] w fun e w' => ∃ v, e = .returned v ∧ OwnB w' w.heap.size v [] ∧ Grew w w' := by
  have h1 : ¬ ((n : Int) < 0) := by omega
  have h1' : decide ((n : Int) < 0) = false := by simp
  by_cases h0 : n = 0
  · subst h0
    go_enter Try.func67, Try.ntmps67
    go_wp2
    go_ret
    exact ⟨_, rfl, ownB_nil _ _, Below.refl _ _⟩
  · have h2 : decide ((n : Int) > 0) = true := by simp; omega
    obtain ⟨i0, hi, hz0, hz1, hz2⟩ := info_parts info_u8
    have hold : (Builtin.firstCells i0.size 0 (.slice none 0 0)).run Try.prog w.drew = .ok ([] : List Value).toArray w.drew := run_firstCells_none w.drew i0.size 0 0 0
    have hbig : (0 + n) * i0.bytes ≤ 140737488355328 := by rw [hz2]; omega
    have hrz : ∀ ty, (Builtin.append_ #[22, 3] ty #[.slice none 0 0, .int .i64 (n : Int)]).run Try.prog w =
        .ok (.slice (some ⟨w.heap.size, 0, none⟩) n (grownCap w n 0 5)) (w.drew.alloc (.cells (([] : List Value).toArray ++ Builtin.zeroCells (Value.int .u8 0).cells n ++ Builtin.zeroCells (Value.int .u8 0).cells (grownCap w n 0 5 - n)) 5)) := fun ty => by
      have h := Lib.run_append_grow_zeros w 22 3 ty 5 i0 (.int .u8 0) .i64 .i64 Try.underlying22 Try.underlying3 hi hz0 none 0 0 [] hold n (by omega) (by rw [hz1]; omega) (by omega) (by omega) (by rw [hz2]; omega)
        (by rw [Nat.zero_add]; exact growslice_fits (by omega) (by rw [Nat.zero_add] at hbig; exact hbig))
      rw [Nat.zero_add] at h
      exact h
    have hG63 := grownCap_le_maxLen w n 0 5 (by unfold maxLen; omega)
    have hGn : n ≤ grownCap w n 0 5 := grownCap_ge w _ _ _
    obtain ⟨G, hG⟩ : ∃ G, G = grownCap w n 0 5 := ⟨_, rfl⟩
    rw [← hG] at hrz hG63 hGn
    have hsz : (([] : List Value).toArray ++ Builtin.zeroCells (Value.int .u8 0).cells n ++ Builtin.zeroCells (Value.int .u8 0).cells (G - n)).size = G := by
      simp [Builtin.zeroCells, Value.cells]; omega
    obtain ⟨zs, hzs⟩ : ∃ zs, zs = ([] : List Value).toArray ++ Builtin.zeroCells (Value.int .u8 0).cells n ++ Builtin.zeroCells (Value.int .u8 0).cells (G - n) := ⟨_, rfl⟩
    rw [← hzs] at hrz hsz
    unfold maxLen at hG63
    clear hold hG hzs hz0 hz1 hz2 hi
    go_enter Try.func67, Try.ntmps67
    go_wp2_with (at_builtin; refine Lib.wpList_append_run _ rfl _ _ _ _ rfl _ _ rfl rfl _ _ (hrz _) ?_)
    go_ret
    refine ⟨_, rfl, ⟨rfl, .inr ⟨w.heap.size, G, zs, rfl, Nat.le_refl _, ?_, by simp, by unfold maxLen; omega, by omega, ?_⟩⟩, ?_⟩
    · exact World.alloc_heap_new w.drew _
    · simp [bv]
    · exact (Drew.grew ⟨1, rfl⟩ : Grew w w.drew).trans (grew_alloc _ _)

/-- the bytes of parts -/
def catl (ps : List (Value × List UInt8)) : List UInt8 := ps.flatMap (·.2)
theorem catl_take_succ (ps : List (Value × List UInt8)) (k : Nat) (h : k < ps.length) : catl (ps.take (k + 1)) = catl (ps.take k) ++ ps[k].2 := by
  unfold catl; rw [List.take_succ_eq_append_getElem h, List.flatMap_append]; simp
theorem catl_take_le (ps : List (Value × List UInt8)) (k : Nat) : (catl (ps.take k)).length ≤ (catl ps).length := by
  have : catl ps = catl (ps.take k) ++ catl (ps.drop k) := by
    unfold catl; rw [← List.flatMap_append, List.take_append_drop]
  rw [this, List.length_append]; omega
set_option maxHeartbeats 1000000 in
theorem concat_any (ps : List (Value × List UInt8)) (sv : Value) (w : World) (hs : Sl w sv ps.length 1 (ps.map (·.1))) (hp : ∀ p ∈ ps, Bs w p.1 p.2) (hlen : (catl ps).length ≤ 1000000000000) :
    Calls Try.prog 44 #[sv] w fun e w' => ∃ v, e = .returned v ∧ OwnB w' w.heap.size v (catl ps) ∧ Grew w w' := by
  obtain ⟨sa, sc, rfl, s1, s2, -, sh⟩ := hs.open
  unfold maxLen at s2
  go_enter Try.func44, Try.ntmps44
  go_wp2
  go_loop [3, 11] (fun s i => ∃ k : Nat, k ≤ ps.length ∧ i = .int .i64 k ∧ s = .int .i64 (catl (ps.take k)).length) (fun _ i => ps.length - (intOf i).toNat)
  case atStart => exact ⟨0, Nat.zero_le _, rfl, rfl⟩
  case round =>
    obtain ⟨k, hk, rfl, rfl⟩ := hrel
    by_cases hlt : k < ps.length
    · obtain ⟨b1, o1, rfl, h1⟩ := sh (by omega)
      have c1 := h1 k ps[k].1 (by simp [hlt])
      have hb := hp ps[k] (List.getElem_mem hlt)
      have hl := catl_take_succ ps k hlt
      have hle := catl_take_le ps (k + 1)
      rw [hl, List.length_append] at hle
      obtain ⟨xa, xc, hx⟩ := bs_len hb
      rw [hx] at c1
      have hlt2 : ¬ (((catl (ps.take k)).length : Int) + (ps[k].2.length : Int) < 0) := by omega
      have hlt3 : decide (((catl (ps.take k)).length : Int) + (ps[k].2.length : Int) < 0) = false := by simp; omega
      have H := Lib.hid hl
      have H2 := Lib.hid hs
      have H3 := Lib.hid hp
      have H4 := Lib.hid hb
      clear h1 sh hl hs hp hb
      go_wp2
      go_round
      case rel => exact ⟨k + 1, by omega, by go_num, by rw [H.out, List.length_append]; push_cast; rfl⟩
      case measure => simp [intOf]; omega
    · obtain rfl : k = ps.length := by omega
      rw [List.take_length]
      go_wp2_with fail
      refine (grow_any _ _ hlen).mono ?_
      rintro e w1 ⟨v1, rfl, ho1, hg1⟩
      go_wp2_with fail
      go_loopw [6, 27] (fun v i wr => ∃ k : Nat, k ≤ ps.length ∧ i = .int .i64 k ∧ OwnB wr w.heap.size v (catl (ps.take k)) ∧ Grew w wr) (fun _ i _ => ps.length - (intOf i).toNat)
      case atStart => exact ⟨0, Nat.zero_le _, rfl, ho1, hg1⟩
      case round =>
        obtain ⟨k, hk, rfl, hown, hB⟩ := hrel
        by_cases hlt : k < ps.length
        · obtain ⟨b1, o1, rfl, h1⟩ := sh (by omega)
          have c1 := (below_ext hB) _ _ (h1 k ps[k].1 (by simp [hlt]))
          have hb := (hp ps[k] (List.getElem_mem hlt)).grew hB
          have hl := catl_take_succ ps k hlt
          have hle := catl_take_le ps (k + 1)
          rw [hl, List.length_append] at hle
          have H := Lib.hid hl
          have H2 := Lib.hid hs
          have H3 := Lib.hid hp
          clear h1 sh hl hs hp
          go_wp2_with (at_builtin; refine wpList_push rfl _ _ rfl w.heap.size _ _ rfl hown _ rfl ps[k].2 hb (by omega) hB.size ?_; intro v' w1 hown1 hB1 _)
          go_roundw
          case rel => exact ⟨k + 1, by omega, by go_num, by rw [H.out]; exact hown1, Below.trans hB hB1⟩
          case measure => simp [intOf]; omega
        · obtain rfl : k = ps.length := by omega
          rw [List.take_length] at hown
          go_wp2
          go_ret
          exact ⟨_, rfl, hown, hB⟩
end Go.Proofs.Ytcibhkiddeggmaa
namespace Go.Proofs.Ytcibhkiddeggmaa
open Go Go.RowKit Go.Shelf

abbrev u8v (x : UInt8) : Value := .int .u8 (x.toNat : Int)
/-- a frame's cells -/
abbrev frV (t : UInt8) (v : Value) : Value := .agg #[.int .u8 (t.toNat : Int), v]
theorem ofNat_u8 (n : Nat) (h : n < 256) : ((UInt8.ofNat n).toNat : Int) = (n : Int) := by
  rw [UInt8.toNat_ofNat']; omega
theorem fjoin_any (ps : List (Value × List UInt8)) (a : Option Addr) (n c : Nat) (w : World) (hs : Sl w (.slice a n c) ps.length 1 (ps.map (·.1))) (hp : ∀ p ∈ ps, Bs w p.1 p.2) (hlen : (catl ps).length ≤ 1000000000000) :
    Calls Try.prog 27 #[.slice a n c] w fun e w' => ∃ v, e = .returned v ∧ OwnB w' w.heap.size v (catl ps) ∧ Grew w w' := by
  go_enter Try.func27, Try.ntmps27
  go_wp2_with fail
  refine (concat_any ps _ _ hs hp hlen).mono ?_
  rintro e w1 ⟨v1, rfl, ho1, hg1⟩
  go_wp2
  go_ret
  exact ⟨_, rfl, ho1, hg1⟩
theorem fhead_bv (f : Frm) (h : f.2.length ≤ 8192) : bv (fhead f) = [Value.int .u8 (f.1.toNat : Int), Value.int .u8 ((f.2.length : Int) % 256), Value.int .u8 ((f.2.length : Int) / 256)] := by
  simp only [bv, fhead, List.map_cons, List.map_nil]
  rw [ofNat_u8 _ (by omega), ofNat_u8 _ (by omega)]
  simp
theorem two_slices (w : World) (v1 v2 : Value) (l1 l2 : List UInt8) (t : TypeId) :
    Sl (w.alloc (.cells #[v1, v2] t)) (.slice (some ⟨w.heap.size, 0, none⟩) 2 2) [(v1, l1), (v2, l2)].length 1 ([(v1, l1), (v2, l2)].map (·.1)) := by
  exact Sl.lit w t (0, 0) #[v1, v2] 2 1 rfl (by unfold maxLen; omega)
set_option maxHeartbeats 1000000 in
theorem fput_any (f : Frm) (v : Value) (w : World) (hb : Bs w v f.2) (hlen : f.2.length ≤ 8192) :
    Calls Try.prog 8 #[frV f.1 v] w fun e w' => ∃ v', e = .returned (.tuple #[v', .int .i64 0]) ∧ OwnB w' w.heap.size v' (fput f) ∧ Grew w w' := by
  obtain ⟨a, c, rfl⟩ := bs_len hb
  have h1 : decide ((f.2.length : Int) > 8192) = false := by simp; omega
  have h2 := u8lt f.1
  have H := Lib.hid hb
  clear hb
  go_enter Try.func8, Try.ntmps8
  go_wp2_with fail
  obtain ⟨w1, hw1⟩ : ∃ w1, w1 = w.alloc (.cells #[Value.int .u8 (f.1.toNat : Int), .slice a f.2.length c] 24) := ⟨_, rfl⟩
  have hz1 : w1.heap.size = w.heap.size + 1 := by rw [hw1, World.size_alloc]
  rw [← hw1, ← hz1]
  have g1 : Grew w w1 := by rw [hw1]; exact grew_alloc _ _
  have l1 := bs_lit w1 (fhead f) #[Value.int .u8 (f.1.toNat : Int), Value.int .u8 ((f.2.length : Int) % 256), Value.int .u8 ((f.2.length : Int) / 256)] 3 rfl (by rw [fhead_bv f hlen]) (by omega)
  obtain ⟨w2, hw2⟩ : ∃ w2, w2 = w1.alloc (.cells #[Value.int .u8 (f.1.toNat : Int), Value.int .u8 ((f.2.length : Int) % 256), Value.int .u8 ((f.2.length : Int) / 256)] 5) := ⟨_, rfl⟩
  have hz2 : w2.heap.size = w1.heap.size + 1 := by rw [hw2, World.size_alloc]
  rw [← hw2] at l1 ⊢
  rw [← hz2]
  have g2 : Grew w1 w2 := by rw [hw2]; exact grew_alloc _ _
  have l2 := bs_lit w2 [197, 154] #[Value.int .u8 197, Value.int .u8 154] 2 rfl (by simp [bv]) (by omega)
  obtain ⟨w3, hw3⟩ : ∃ w3, w3 = w2.alloc (.cells #[Value.int .u8 197, Value.int .u8 154] 5) := ⟨_, rfl⟩
  have hz3 : w3.heap.size = w2.heap.size + 1 := by rw [hw3, World.size_alloc]
  rw [← hw3] at l2 ⊢
  rw [← hz3]
  have g3 : Grew w2 w3 := by rw [hw3]; exact grew_alloc _ _
  have l3 := two_slices w3 (.slice (some ⟨w1.heap.size, 0, none⟩) 3 3) (.slice a f.2.length c) (fhead f) f.2 22
  obtain ⟨w4, hw4⟩ : ∃ w4, w4 = w3.alloc (.cells #[Value.slice (some ⟨w1.heap.size, 0, none⟩) 3 3, .slice a f.2.length c] 22) := ⟨_, rfl⟩
  rw [← hw4] at l3 ⊢
  have g4 : Grew w3 w4 := by rw [hw4]; exact grew_alloc _ _
  have G4 : Grew w w4 := ((g1.trans g2).trans g3).trans g4
  have fl : (fhead f).length = 3 := rfl
  have e1 : catl [(Value.slice (some ⟨w1.heap.size, 0, none⟩) 3 3, fhead f), (Value.slice a f.2.length c, f.2)] = fhead f ++ f.2 := by simp [catl]
  refine (fjoin_any _ _ _ _ _ l3 (by
    intro p hp
    simp only [List.mem_cons, List.not_mem_nil, or_false] at hp
    rcases hp with rfl | rfl
    · exact l1.grew (g3.trans g4)
    · exact H.out.grew G4) (by rw [e1, List.length_append]; omega)).mono ?_
  rw [e1]
  rintro e w5 ⟨v5, rfl, ho5, g5⟩
  have h5 := Sl.of_own ho5
  obtain ⟨a5, n5, c5, rfl, hn5⟩ := bs_shape h5
  clear l1 l3 hz1 hz2 hz3 hw1 hw2 hw3 hw4
  go_wp2_with fail
  refine (seal_any _ _ _ h5 (by rw [List.length_append]; omega)).mono ?_
  rintro e w6 ⟨v6, rfl, ho6, g6⟩
  obtain ⟨S, hS⟩ : ∃ S, S = cseal (fhead f ++ f.2) := ⟨_, rfl⟩
  have hSl : S.length = f.2.length + 7 := by rw [hS, cseal_length, List.length_append]; omega
  have hfp : fput f = [197, 154] ++ S := by rw [hS, fput]
  rw [← hS] at ho6
  have HF := Lib.hid hfp
  clear hS hfp
  have h6 := Sl.of_own ho6
  have G6 : Grew w4 w6 := g5.trans g6
  obtain ⟨a6, n6, c6, rfl, hn6⟩ := bs_shape h6
  clear h5 ho5 ho6
  go_wp2_with fail
  have l7 := two_slices w6 (.slice (some ⟨w2.heap.size, 0, none⟩) 2 2) (.slice a6 n6 c6) [197, 154] S 22
  have g7 : Grew w6 (w6.alloc (.cells #[Value.slice (some ⟨w2.heap.size, 0, none⟩) 2 2, .slice a6 n6 c6] 22)) := grew_alloc _ _
  have e2 : catl [(Value.slice (some ⟨w2.heap.size, 0, none⟩) 2 2, [197, 154]), (Value.slice a6 n6 c6, S)] = [197, 154] ++ S := by simp [catl]
  refine (fjoin_any _ _ _ _ _ l7 (by
    intro p hp
    simp only [List.mem_cons, List.not_mem_nil, or_false] at hp
    rcases hp with rfl | rfl
    · exact l2.grew ((g4.trans G6).trans g7)
    · exact h6.grew g7) (by rw [e2, List.length_append, hSl]; simp; omega)).mono ?_
  rw [e2]
  rintro e w8 ⟨v8, rfl, ho8, g8⟩
  go_wp2
  go_ret2
  have G8 : Grew w w6 := G4.trans G6
  exact ⟨_, rfl, by rw [HF.out]; exact own_mono ho8 (by have := G8.size; simp; omega), (G8.trans g7).trans g8⟩
theorem fput_long (f : Frm) (v : Value) (w : World) (hb : Bs w v f.2) (hlen : 8192 < f.2.length) :
    Calls Try.prog 8 #[frV f.1 v] w fun e w' => e = .returned (.tuple #[.slice none 0 0, .int .i64 2]) ∧ Grew w w' := by
  obtain ⟨a, c, rfl, hc, hc2, -, -⟩ := hb.open
  unfold maxLen at hc2
  have h1 : decide ((f.2.length : Int) > 8192) = true := by simp; omega
  clear hb
  go_enter Try.func8, Try.ntmps8
  go_wp2
  go_ret2
  exact ⟨rfl, grew_alloc _ _⟩
def fsize (n : Int) : Int := if n < 0 ∨ 8192 < n then 0 else n + 9
theorem fsize_any (n : Int) (w : World) (h1 : -9000000000000000000 ≤ n) (h2 : n ≤ 9000000000000000000) :
    Calls Try.prog 9 #[.int .i64 n] w fun e w' => e = .returned (.int .i64 (fsize n)) ∧ w = w' := by
  by_cases c1 : n < 0
  · have e : fsize n = 0 := by unfold fsize; rw [if_pos (.inl c1)]
    have E := Lib.hid e
    clear e
    go_enter Try.func9, Try.ntmps9
    go_wp2
    go_ret
    exact ⟨ret_int E.out.symm, rfl⟩
  · have c1' : decide (n < 0) = false := by simpa using c1
    by_cases c2 : 8192 < n
    · have e : fsize n = 0 := by unfold fsize; rw [if_pos (.inr c2)]
      have c2' : decide (n > 8192) = true := by simpa using c2
      have E := Lib.hid e
      clear e
      go_enter Try.func9, Try.ntmps9
      go_wp2
      go_ret
      exact ⟨ret_int E.out.symm, rfl⟩
    · have e : fsize n = n + 9 := by unfold fsize; rw [if_neg (by omega)]
      have c2' : decide (n > 8192) = false := by simpa using c2
      have E := Lib.hid e
      clear e
      go_enter Try.func9, Try.ntmps9
      go_wp2
      go_ret
      exact ⟨ret_int (by rw [E.out]; omega), rfl⟩
theorem or_len (a b : Nat) (ha : a < 256) (hb : b < 256) : bits .or .i64 (a : Int) ((b : Int) * 256) = ((a + 256 * b : Nat) : Int) := by
  have hx : a ||| b * 256 < 2 ^ 63 := Nat.or_lt_two_pow (by omega) (by omega)
  have e : ((b : Int) * 256) = ((b * 256 : Nat) : Int) := by omega
  rw [e]
  show IntKind.i64.wrap ((BitVec.ofInt 64 (a : Int) ||| BitVec.ofInt 64 ((b * 256 : Nat) : Int)).toNat : Int) = _
  rw [BitVec.toNat_or, ofInt_u64 a (by omega), ofInt_u64 _ (by omega)]
  rw [nat_join8' (b * 256) a (by omega) (by omega)]
  have e2 : ((b * 256 + a : Nat) : Int) % 2 ^ 64 = ((b * 256 + a : Nat) : Int) := Int.emod_eq_of_lt (by omega) (by omega)
  simp only [IntKind.wrap, IntKind.bits, IntKind.signed, e2]
  rw [if_neg]
  · omega
  · simp; omega
theorem flength_any (l : List UInt8) (v : Value) (w : World) (hb : Bs w v l) (hlen : 5 ≤ l.length) :
    Calls Try.prog 31 #[v] w fun e w' => e = .returned (.int .i64 (flen l : Nat)) ∧ Drew w w' := by
  obtain ⟨a, c, rfl, h1, h2, -, h4⟩ := hb.open
  obtain ⟨b, off, rfl, hc⟩ := h4 (by omega)
  have c3 := hc 3 _ (bv_get l 3 (by omega))
  have c4 := hc 4 _ (bv_get l 4 (by omega))
  have b3 := l[3].toNat_lt
  have b4 := l[4].toNat_lt
  have e : flen l = l[3].toNat + 256 * l[4].toNat := by
    unfold flen byteAt
    rw [List.getD_eq_getElem?_getD, List.getD_eq_getElem?_getD, List.getElem?_eq_getElem (by omega), List.getElem?_eq_getElem (by omega)]; rfl
  have ho := or_len l[3].toNat l[4].toNat (by omega) (by omega)
  have E := Lib.hid e
  clear e hb h4 hc
  go_enter Try.func31, Try.ntmps31
  go_wp2
  go_quiet (fail)
  go_wp2
  go_ret
  exact ⟨ret_int (by rw [E.out]; omega), _, rfl⟩
end Go.Proofs.Ytcibhkiddeggmaa
