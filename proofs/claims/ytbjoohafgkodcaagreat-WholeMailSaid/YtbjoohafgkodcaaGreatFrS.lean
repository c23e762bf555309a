/- Contracts of frame.Same, resync.Could and rescriptref13. ; Contract of frame.Read. ; Contracts of package frame and of rescriptref13. ; Contracts of slices.Grow and slices.Concat on byte slices. -/
import Derived.Test.YtbjoohafgkodcaaGreatPay
import Derived.Lib.AppendZerosOnto
import Derived.Lib.Walk
import Derived.Test.YtbjoohafgkodcaaGreatFrL
namespace Go.Proofs.YtbjoohafgkodcaaGreat
open Go Go.RowKit Go.Shelf

set_option maxHeartbeats 1000000 in
theorem grow_any (n : Nat) (w : World) (hn : n ≤ 1000000000000) :
    Calls Tryz.prog 98 #[.slice none 0 0, .int .i64 n] w fun e w' => ∃ v, e = .returned v ∧ OwnB w' w.heap.size v [] ∧ Grew w w' := by
  have h1 : ¬ ((n : Int) < 0) := by omega
  have h1' : decide ((n : Int) < 0) = false := by simp
  by_cases h0 : n = 0
  · subst h0
    go_enter Tryz.func98, Tryz.ntmps98
    go_wp2
    go_ret
    exact ⟨_, rfl, ownB_nil _ _, Below.refl _ _⟩
  · have h2 : decide ((n : Int) > 0) = true := by simp; omega
    obtain ⟨i0, hi, hz0, hz1, hz2⟩ := info_parts info_u8
    have hold : (Builtin.firstCells i0.size 0 (.slice none 0 0)).run Tryz.prog w.drew = .ok ([] : List Value).toArray w.drew := run_firstCells_none w.drew i0.size 0 0 0
    have hbig : (0 + n) * i0.bytes ≤ 140737488355328 := by rw [hz2]; omega
    have hrz : ∀ ty, (Builtin.append_ #[22, 3] ty #[.slice none 0 0, .int .i64 (n : Int)]).run Tryz.prog w =
        .ok (.slice (some ⟨w.heap.size, 0, none⟩) n (grownCap w n 0 5)) (w.drew.alloc (.cells (([] : List Value).toArray ++ Builtin.zeroCells (Value.int .u8 0).cells n ++ Builtin.zeroCells (Value.int .u8 0).cells (grownCap w n 0 5 - n)) 5)) := fun ty => by
      have h := Lib.run_append_grow_zeros w 22 3 ty 5 i0 (.int .u8 0) .i64 .i64 Tryz.underlying22 Tryz.underlying3 hi hz0 none 0 0 [] hold n (by omega) (by rw [hz1]; omega) (by omega) (by omega) (by rw [hz2]; omega)
        (by rw [Nat.zero_add]; exact growslice_fits (by omega) (by rw [Nat.zero_add] at hbig; exact hbig))
      rw [Nat.zero_add] at h
      exact h
    have hG63 := grownCap_le_maxLen w n 0 5 (by unfold maxLen; omega)
    have hGn : n ≤ grownCap w n 0 5 := grownCap_ge w _ _ _
    obtain ⟨G, hG⟩ : ∃ G, G = grownCap w n 0 5 := ⟨_, rfl⟩
    rw [← hG] at hrz hG63 hGn
    have hsz : (([] : List Value).toArray ++ Builtin.zeroCells (Value.int .u8 0).cells n ++ Builtin.zeroCells (Value.int .u8 0).cells (G - n)).size = G := by
      simp [Builtin.zeroCells, Value.cells]; omega
    obtain ⟨zs, hzs⟩ : ∃ zs, zs = ([] : List Value).toArray ++ Builtin.zeroCells (Value.int .u8 0).cells n ++ Builtin.zeroCells (Value.int .u8 0).cells (G - n) := ⟨_, rfl⟩
    rw [← hzs] at hrz hsz
    unfold maxLen at hG63
    clear hold hG hzs hz0 hz1 hz2 hi
    go_enter Tryz.func98, Tryz.ntmps98
    go_wp2_with (at_builtin; refine Lib.wpList_append_run _ rfl _ _ _ _ rfl _ _ rfl rfl _ _ (hrz _) ?_)
    go_ret
    refine ⟨_, rfl, ⟨rfl, .inr ⟨w.heap.size, G, zs, rfl, Nat.le_refl _, ?_, by simp, by unfold maxLen; omega, by omega, ?_⟩⟩, ?_⟩
    · exact World.alloc_heap_new w.drew _
    · simp [bv]
    · exact (Drew.grew ⟨1, rfl⟩ : Grew w w.drew).trans (grew_alloc _ _)

/-- the bytes of parts -/
def catl (ps : List (Value × List UInt8)) : List UInt8 := ps.flatMap (·.2)
theorem catl_take_succ (ps : List (Value × List UInt8)) (k : Nat) (h : k < ps.length) : catl (ps.take (k + 1)) = catl (ps.take k) ++ ps[k].2 := by
  unfold catl; rw [List.take_succ_eq_append_getElem h, List.flatMap_append]; simp
theorem catl_take_le (ps : List (Value × List UInt8)) (k : Nat) : (catl (ps.take k)).length ≤ (catl ps).length := by
  have : catl ps = catl (ps.take k) ++ catl (ps.drop k) := by
    unfold catl; rw [← List.flatMap_append, List.take_append_drop]
  rw [this, List.length_append]; omega
set_option maxHeartbeats 1000000 in
theorem concat_any (ps : List (Value × List UInt8)) (sv : Value) (w : World) (hs : Sl w sv ps.length 1 (ps.map (·.1))) (hp : ∀ p ∈ ps, Bs w p.1 p.2) (hlen : (catl ps).length ≤ 1000000000000) :
    Calls Tryz.prog 75 #[sv] w fun e w' => ∃ v, e = .returned v ∧ OwnB w' w.heap.size v (catl ps) ∧ Grew w w' := by
  obtain ⟨sa, sc, rfl, s1, s2, -, sh⟩ := hs.open
  unfold maxLen at s2
  go_enter Tryz.func75, Tryz.ntmps75
  go_wp2
  go_loop [3, 11] (fun s i => ∃ k : Nat, k ≤ ps.length ∧ i = .int .i64 k ∧ s = .int .i64 (catl (ps.take k)).length) (fun _ i => ps.length - (intOf i).toNat)
  case atStart => exact ⟨0, Nat.zero_le _, rfl, rfl⟩
  case round =>
    obtain ⟨k, hk, rfl, rfl⟩ := hrel
    by_cases hlt : k < ps.length
    · obtain ⟨b1, o1, rfl, h1⟩ := sh (by omega)
      have c1 := h1 k ps[k].1 (by simp [hlt])
      have hb := hp ps[k] (List.getElem_mem hlt)
      have hl := catl_take_succ ps k hlt
      have hle := catl_take_le ps (k + 1)
      rw [hl, List.length_append] at hle
      obtain ⟨xa, xc, hx⟩ := bs_len hb
      rw [hx] at c1
      have hlt2 : ¬ (((catl (ps.take k)).length : Int) + (ps[k].2.length : Int) < 0) := by omega
      have hlt3 : decide (((catl (ps.take k)).length : Int) + (ps[k].2.length : Int) < 0) = false := by simp; omega
      have H := Lib.hid hl
      have H2 := Lib.hid hs
      have H3 := Lib.hid hp
      have H4 := Lib.hid hb
      clear h1 sh hl hs hp hb
      go_wp2
      go_round
      case rel => exact ⟨k + 1, by omega, by go_num, by rw [H.out, List.length_append]; push_cast; rfl⟩
      case measure => simp [intOf]; omega
    · obtain rfl : k = ps.length := by omega
      rw [List.take_length]
      go_wp2_with fail
      refine (grow_any _ _ hlen).mono ?_
      rintro e w1 ⟨v1, rfl, ho1, hg1⟩
      go_wp2_with fail
      go_loopw [6, 27] (fun v i wr => ∃ k : Nat, k ≤ ps.length ∧ i = .int .i64 k ∧ OwnB wr w.heap.size v (catl (ps.take k)) ∧ Grew w wr) (fun _ i _ => ps.length - (intOf i).toNat)
      case atStart => exact ⟨0, Nat.zero_le _, rfl, ho1, hg1⟩
      case round =>
        obtain ⟨k, hk, rfl, hown, hB⟩ := hrel
        by_cases hlt : k < ps.length
        · obtain ⟨b1, o1, rfl, h1⟩ := sh (by omega)
          have c1 := (below_ext hB) _ _ (h1 k ps[k].1 (by simp [hlt]))
          have hb := (hp ps[k] (List.getElem_mem hlt)).grew hB
          have hl := catl_take_succ ps k hlt
          have hle := catl_take_le ps (k + 1)
          rw [hl, List.length_append] at hle
          have H := Lib.hid hl
          have H2 := Lib.hid hs
          have H3 := Lib.hid hp
          clear h1 sh hl hs hp
          go_wp2_with (at_builtin; refine wpList_push rfl _ _ rfl w.heap.size _ _ rfl hown _ rfl ps[k].2 hb (by omega) hB.size ?_; intro v' w1 hown1 hB1 _)
          go_roundw
          case rel => exact ⟨k + 1, by omega, by go_num, by rw [H.out]; exact hown1, Below.trans hB hB1⟩
          case measure => simp [intOf]; omega
        · obtain rfl : k = ps.length := by omega
          rw [List.take_length] at hown
          go_wp2
          go_ret
          exact ⟨_, rfl, hown, hB⟩
end Go.Proofs.YtbjoohafgkodcaaGreat
namespace Go.Proofs.YtbjoohafgkodcaaGreat
open Go Go.RowKit Go.Shelf

abbrev u8v (x : UInt8) : Value := .int .u8 (x.toNat : Int)
/-- a frame's cells -/
abbrev frV (t : UInt8) (v : Value) : Value := .agg #[.int .u8 (t.toNat : Int), v]
theorem ofNat_u8 (n : Nat) (h : n < 256) : ((UInt8.ofNat n).toNat : Int) = (n : Int) := by
  rw [UInt8.toNat_ofNat']; omega
theorem fjoin_any (ps : List (Value × List UInt8)) (a : Option Addr) (n c : Nat) (w : World) (hs : Sl w (.slice a n c) ps.length 1 (ps.map (·.1))) (hp : ∀ p ∈ ps, Bs w p.1 p.2) (hlen : (catl ps).length ≤ 1000000000000) :
    Calls Tryz.prog 54 #[.slice a n c] w fun e w' => ∃ v, e = .returned v ∧ OwnB w' w.heap.size v (catl ps) ∧ Grew w w' := by
  go_enter Tryz.func54, Tryz.ntmps54
  go_wp2_with fail
  refine (concat_any ps _ _ hs hp hlen).mono ?_
  rintro e w1 ⟨v1, rfl, ho1, hg1⟩
  go_wp2
  go_ret
  exact ⟨_, rfl, ho1, hg1⟩
theorem fhead_bv (f : Frm) (h : f.2.length ≤ 8192) : bv (fhead f) = [Value.int .u8 (f.1.toNat : Int), Value.int .u8 ((f.2.length : Int) % 256), Value.int .u8 ((f.2.length : Int) / 256)] := by
  simp only [bv, fhead, List.map_cons, List.map_nil]
  rw [ofNat_u8 _ (by omega), ofNat_u8 _ (by omega)]
  simp
theorem two_slices (w : World) (v1 v2 : Value) (l1 l2 : List UInt8) (t : TypeId) :
    Sl (w.alloc (.cells #[v1, v2] t)) (.slice (some ⟨w.heap.size, 0, none⟩) 2 2) [(v1, l1), (v2, l2)].length 1 ([(v1, l1), (v2, l2)].map (·.1)) := by
  exact Sl.lit w t (0, 0) #[v1, v2] 2 1 rfl (by unfold maxLen; omega)
set_option maxHeartbeats 1000000 in
theorem fput_any (f : Frm) (v : Value) (w : World) (hb : Bs w v f.2) (hlen : f.2.length ≤ 8192) :
    Calls Tryz.prog 32 #[frV f.1 v] w fun e w' => ∃ v', e = .returned (.tuple #[v', .int .i64 0]) ∧ OwnB w' w.heap.size v' (fput f) ∧ Grew w w' := by
  obtain ⟨a, c, rfl⟩ := bs_len hb
  have h1 : decide ((f.2.length : Int) > 8192) = false := by simp; omega
  have h2 := u8lt f.1
  have H := Lib.hid hb
  clear hb
  go_enter Tryz.func32, Tryz.ntmps32
  go_wp2_with fail
  obtain ⟨w1, hw1⟩ : ∃ w1, w1 = w.alloc (.cells #[Value.int .u8 (f.1.toNat : Int), .slice a f.2.length c] 42) := ⟨_, rfl⟩
  have hz1 : w1.heap.size = w.heap.size + 1 := by rw [hw1, World.size_alloc]
  rw [← hw1, ← hz1]
  have g1 : Grew w w1 := by rw [hw1]; exact grew_alloc _ _
  have l1 := bs_lit w1 (fhead f) #[Value.int .u8 (f.1.toNat : Int), Value.int .u8 ((f.2.length : Int) % 256), Value.int .u8 ((f.2.length : Int) / 256)] 3 rfl (by rw [fhead_bv f hlen]) (by omega)
  obtain ⟨w2, hw2⟩ : ∃ w2, w2 = w1.alloc (.cells #[Value.int .u8 (f.1.toNat : Int), Value.int .u8 ((f.2.length : Int) % 256), Value.int .u8 ((f.2.length : Int) / 256)] 5) := ⟨_, rfl⟩
  have hz2 : w2.heap.size = w1.heap.size + 1 := by rw [hw2, World.size_alloc]
  rw [← hw2] at l1 ⊢
  rw [← hz2]
  have g2 : Grew w1 w2 := by rw [hw2]; exact grew_alloc _ _
  have l2 := bs_lit w2 [197, 154] #[Value.int .u8 197, Value.int .u8 154] 2 rfl (by simp [bv]) (by omega)
  obtain ⟨w3, hw3⟩ : ∃ w3, w3 = w2.alloc (.cells #[Value.int .u8 197, Value.int .u8 154] 5) := ⟨_, rfl⟩
  have hz3 : w3.heap.size = w2.heap.size + 1 := by rw [hw3, World.size_alloc]
  rw [← hw3] at l2 ⊢
  rw [← hz3]
  have g3 : Grew w2 w3 := by rw [hw3]; exact grew_alloc _ _
  have l3 := two_slices w3 (.slice (some ⟨w1.heap.size, 0, none⟩) 3 3) (.slice a f.2.length c) (fhead f) f.2 22
  obtain ⟨w4, hw4⟩ : ∃ w4, w4 = w3.alloc (.cells #[Value.slice (some ⟨w1.heap.size, 0, none⟩) 3 3, .slice a f.2.length c] 22) := ⟨_, rfl⟩
  rw [← hw4] at l3 ⊢
  have g4 : Grew w3 w4 := by rw [hw4]; exact grew_alloc _ _
  have G4 : Grew w w4 := ((g1.trans g2).trans g3).trans g4
  have fl : (fhead f).length = 3 := rfl
  have e1 : catl [(Value.slice (some ⟨w1.heap.size, 0, none⟩) 3 3, fhead f), (Value.slice a f.2.length c, f.2)] = fhead f ++ f.2 := by simp [catl]
  refine (fjoin_any _ _ _ _ _ l3 (by
    intro p hp
    simp only [List.mem_cons, List.not_mem_nil, or_false] at hp
    rcases hp with rfl | rfl
    · exact l1.grew (g3.trans g4)
    · exact H.out.grew G4) (by rw [e1, List.length_append]; omega)).mono ?_
  rw [e1]
  rintro e w5 ⟨v5, rfl, ho5, g5⟩
  have h5 := Sl.of_own ho5
  obtain ⟨a5, n5, c5, rfl, hn5⟩ := bs_shape h5
  clear l1 l3 hz1 hz2 hz3 hw1 hw2 hw3 hw4
  go_wp2_with fail
  refine (seal_any _ _ _ h5 (by rw [List.length_append]; omega)).mono ?_
  rintro e w6 ⟨v6, rfl, ho6, g6⟩
  obtain ⟨S, hS⟩ : ∃ S, S = cseal (fhead f ++ f.2) := ⟨_, rfl⟩
  have hSl : S.length = f.2.length + 7 := by rw [hS, cseal_length, List.length_append]; omega
  have hfp : fput f = [197, 154] ++ S := by rw [hS, fput]
  rw [← hS] at ho6
  have HF := Lib.hid hfp
  clear hS hfp
  have h6 := Sl.of_own ho6
  have G6 : Grew w4 w6 := g5.trans g6
  obtain ⟨a6, n6, c6, rfl, hn6⟩ := bs_shape h6
  clear h5 ho5 ho6
  go_wp2_with fail
  have l7 := two_slices w6 (.slice (some ⟨w2.heap.size, 0, none⟩) 2 2) (.slice a6 n6 c6) [197, 154] S 22
  have g7 : Grew w6 (w6.alloc (.cells #[Value.slice (some ⟨w2.heap.size, 0, none⟩) 2 2, .slice a6 n6 c6] 22)) := grew_alloc _ _
  have e2 : catl [(Value.slice (some ⟨w2.heap.size, 0, none⟩) 2 2, [197, 154]), (Value.slice a6 n6 c6, S)] = [197, 154] ++ S := by simp [catl]
  refine (fjoin_any _ _ _ _ _ l7 (by
    intro p hp
    simp only [List.mem_cons, List.not_mem_nil, or_false] at hp
    rcases hp with rfl | rfl
    · exact l2.grew ((g4.trans G6).trans g7)
    · exact h6.grew g7) (by rw [e2, List.length_append, hSl]; simp; omega)).mono ?_
  rw [e2]
  rintro e w8 ⟨v8, rfl, ho8, g8⟩
  go_wp2
  go_ret2
  have G8 : Grew w w6 := G4.trans G6
  exact ⟨_, rfl, by rw [HF.out]; exact own_mono ho8 (by have := G8.size; simp; omega), (G8.trans g7).trans g8⟩
theorem fput_long (f : Frm) (v : Value) (w : World) (hb : Bs w v f.2) (hlen : 8192 < f.2.length) :
    Calls Tryz.prog 32 #[frV f.1 v] w fun e w' => e = .returned (.tuple #[.slice none 0 0, .int .i64 2]) ∧ Grew w w' := by
  obtain ⟨a, c, rfl, hc, hc2, -, -⟩ := hb.open
  unfold maxLen at hc2
  have h1 : decide ((f.2.length : Int) > 8192) = true := by simp; omega
  clear hb
  go_enter Tryz.func32, Tryz.ntmps32
  go_wp2
  go_ret2
  exact ⟨rfl, grew_alloc _ _⟩
def fsize (n : Int) : Int := if n < 0 ∨ 8192 < n then 0 else n + 9
theorem fsize_any (n : Int) (w : World) (h1 : -9000000000000000000 ≤ n) (h2 : n ≤ 9000000000000000000) :
    Calls Tryz.prog 34 #[.int .i64 n] w fun e w' => e = .returned (.int .i64 (fsize n)) ∧ w = w' := by
  by_cases c1 : n < 0
  · have e : fsize n = 0 := by unfold fsize; rw [if_pos (.inl c1)]
    have E := Lib.hid e
    clear e
    go_enter Tryz.func34, Tryz.ntmps34
    go_wp2
    go_ret
    exact ⟨ret_int E.out.symm, rfl⟩
  · have c1' : decide (n < 0) = false := by simpa using c1
    by_cases c2 : 8192 < n
    · have e : fsize n = 0 := by unfold fsize; rw [if_pos (.inr c2)]
      have c2' : decide (n > 8192) = true := by simpa using c2
      have E := Lib.hid e
      clear e
      go_enter Tryz.func34, Tryz.ntmps34
      go_wp2
      go_ret
      exact ⟨ret_int E.out.symm, rfl⟩
    · have e : fsize n = n + 9 := by unfold fsize; rw [if_neg (by omega)]
      have c2' : decide (n > 8192) = false := by simpa using c2
      have E := Lib.hid e
      clear e
      go_enter Tryz.func34, Tryz.ntmps34
      go_wp2
      go_ret
      exact ⟨ret_int (by rw [E.out]; omega), rfl⟩
theorem or_len (a b : Nat) (ha : a < 256) (hb : b < 256) : bits .or .i64 (a : Int) ((b : Int) * 256) = ((a + 256 * b : Nat) : Int) := by
  have hx : a ||| b * 256 < 2 ^ 63 := Nat.or_lt_two_pow (by omega) (by omega)
  have e : ((b : Int) * 256) = ((b * 256 : Nat) : Int) := by omega
  rw [e]
  show IntKind.i64.wrap ((BitVec.ofInt 64 (a : Int) ||| BitVec.ofInt 64 ((b * 256 : Nat) : Int)).toNat : Int) = _
  rw [BitVec.toNat_or, ofInt_u64 a (by omega), ofInt_u64 _ (by omega)]
  rw [nat_join8' (b * 256) a (by omega) (by omega)]
  have e2 : ((b * 256 + a : Nat) : Int) % 2 ^ 64 = ((b * 256 + a : Nat) : Int) := Int.emod_eq_of_lt (by omega) (by omega)
  simp only [IntKind.wrap, IntKind.bits, IntKind.signed, e2]
  rw [if_neg]
  · omega
  · simp; omega
theorem flength_any (l : List UInt8) (v : Value) (w : World) (hb : Bs w v l) (hlen : 5 ≤ l.length) :
    Calls Tryz.prog 56 #[v] w fun e w' => e = .returned (.int .i64 (flen l : Nat)) ∧ Drew w w' := by
  obtain ⟨a, c, rfl, h1, h2, -, h4⟩ := hb.open
  obtain ⟨b, off, rfl, hc⟩ := h4 (by omega)
  have c3 := hc 3 _ (bv_get l 3 (by omega))
  have c4 := hc 4 _ (bv_get l 4 (by omega))
  have b3 := l[3].toNat_lt
  have b4 := l[4].toNat_lt
  have e : flen l = l[3].toNat + 256 * l[4].toNat := by
    unfold flen byteAt
    rw [List.getD_eq_getElem?_getD, List.getD_eq_getElem?_getD, List.getElem?_eq_getElem (by omega), List.getElem?_eq_getElem (by omega)]; rfl
  have ho := or_len l[3].toNat l[4].toNat (by omega) (by omega)
  have E := Lib.hid e
  clear e hb h4 hc
  go_enter Tryz.func56, Tryz.ntmps56
  go_wp2
  go_quiet (fail)
  go_wp2
  go_ret
  exact ⟨ret_int (by rw [E.out]; omega), _, rfl⟩
end Go.Proofs.YtbjoohafgkodcaaGreat
namespace Go.Proofs.YtbjoohafgkodcaaGreat
open Go Go.RowKit Go.Shelf

/-- what Open tells of a frame's summed part -/
theorem copen_frame {l : List UInt8} {n : Nat} (hn : n + 9 ≤ l.length) : ((l.drop 2).take (n + 7)).length = n + 7 ∧
    copen ((l.drop 2).take (n + 7)) = if cseal ((l.drop 2).take (n + 3)) = (l.drop 2).take (n + 7) then ((l.drop 2).take (n + 3), 0) else ([], 12) := by
  have hl : ((l.drop 2).take (n + 7)).length = n + 7 := by simp; omega
  refine ⟨hl, ?_⟩
  unfold copen
  rw [hl, if_neg (by omega), show n + 7 - 4 = n + 3 by omega, List.take_take, Nat.min_eq_left (by omega)]
theorem loadVar_frame (w : World) (b : Nat) (cs : Array Value) (hs : cs.size = 2) (h : Blk w b 42 cs) : (loadVar 42 ⟨b, 0, none⟩).run Tryz.prog w = .ok (.agg cs) w :=
  run_loadVar_row w b _ _ cs (0, 0) _ h Tryz.underlying42 rfl (by rw [hs]; kernel_rfl)
/-- the two cells of a block -/
theorem cells2 {w : World} {b : Nat} {t : TypeId} {x y : Value} (h : Blk w b t #[x, y]) : w.cell? ⟨b, 0, none⟩ = some x ∧ w.cell? ⟨b, 1, none⟩ = some y ∧ w.frozen? ⟨b, 0, none⟩ = false ∧ w.frozen? ⟨b, 1, none⟩ = false := by
  refine ⟨?_, ?_, h.frozen 0, h.frozen 1⟩
  · have := h.cell 0; simpa using this
  · have := h.cell 1; simpa using this
/-- what a failed Read leaves -/
theorem fread_fail {l : List UInt8} {e : Nat} (h : ferr l = e) (he : e ≠ 0) : fread l = ((0, []), 0, e) := by
  unfold fread; rw [h, if_neg he]
set_option maxRecDepth 100000 in
set_option maxHeartbeats 2000000 in
theorem fread_any (l : List UInt8) (v : Value) (w : World) (hb : Bs w v l) (hlen : l.length ≤ 1000000000) :
    Calls Tryz.prog 33 #[v] w fun e w' => ∃ v', e = .returned (.tuple #[frV (fread l).1.1 v', .int .i64 (fread l).2.1, .int .i64 (fread l).2.2]) ∧ PayV w' w.heap.size v' (fread l).1.2 ∧ Grew w w' := by
  obtain ⟨R, hR⟩ : ∃ R, R = fread l := ⟨_, rfl⟩
  rw [← hR]
  obtain ⟨a, c, rfl, h1, h2, -, h4⟩ := hb.open
  unfold maxLen at h2
  have HR := Lib.hid hR
  have HB := Lib.hid hb
  clear hR hb
  go_enter Tryz.func33, Tryz.ntmps33
  go_wp2
  go_step3
  go_wp2
  go_step3
  go_wp2
  go_loopw [5, 13] (fun ev i wr => (ev = .int .i64 4 ∧ ∃ k : Nat, k ≤ l.length ∧ k ≤ 4 ∧ i = .int .i64 k ∧ (0 < k → byteAt l 0 = 197) ∧ (1 < k → byteAt l 1 = 154)) ∧ Drew (w.alloc (.cells #[.int .u8 0, .slice none 0 0] 42)) wr) (fun _ i _ => 5 - (intOf i).toNat)
  case atStart => exact ⟨⟨rfl, 0, Nat.zero_le _, Nat.zero_le _, rfl, by omega, by omega⟩, 0, rfl⟩
  case round =>
    obtain ⟨⟨rfl, k, hk, hk4, rfl, hb0, hb1⟩, m, rfl⟩ := hrel
    by_cases hlt : k < l.length
    · obtain ⟨b, o, rfl, hc⟩ := h4 (by omega)
      have c0 := below_ext (grew_alloc w (.cells #[.int .u8 0, .slice none 0 0] 42)) _ _ (hc k _ (bv_get l k hlt))
      have hba : byteAt l k = l[k].toNat := by unfold byteAt; rw [List.getD_eq_getElem?_getD, List.getElem?_eq_getElem hlt]; rfl
      have hu := u8lt l[k]
      clear hc h4
      by_cases e0 : k = 0
      · have k0 : ((k : Int) == 0) = true := by simp; omega
        have k1 : ((k : Int) == 1) = false := by simp; omega
        have k2 : decide ((k : Int) + 1 < 5) = true := by simp; omega
        by_cases hx : l[k].toNat = 197
        · have hx1 : ((l[k].toNat : Int) != 197) = false := by simp [hx]
          have hx2 := Lib.hid hx
          have e1 := Lib.hid e0
          clear hx e0
          go_wp2
          go_roundw
          case rel => exact ⟨⟨rfl, k + 1, by omega, by have := e1.out; omega, by go_num, fun _ => by have h1 := e1.out; have h2 := hx2.out; subst h1; rw [hba]; exact h2, fun h => by have := e1.out; omega⟩, ⟨m, rfl⟩⟩
          case measure => have := e1.out; simp [intOf]; omega
        · have hx1 : ((l[k].toNat : Int) != 197) = true := by simp; omega
          have hx2 := Lib.hid hx
          have e1 := Lib.hid e0
          clear hx e0
          go_wp2
          rw [Exit.noGoto_ret]
          have hw := (((Blk.new w 42 #[.int .u8 0, .slice none 0 0]).drewN m).set 0 (.int .u8 0)).set 1 (.slice none 0 0)
          refine bodyPost_ret (results_ctt rfl _ _ ⟨w.heap.size, 0, none⟩ _ _ _ rfl rfl rfl (loadVar_frame _ _ _ rfl hw)) rfl ?_
          have hf : ferr l = 3 := by
            have h1 := e1.out; have h2 := hx2.out; subst h1
            unfold ferr; rw [if_pos (.inl ⟨hlt, by rw [hba]; exact h2⟩)]
          rw [HR.out, fread_fail hf (by omega)]
          exact ⟨_, rfl, PayV.nil _ _, grew_set (grew_set (Grew.trans (grew_alloc _ _) (Drew.grew ⟨m, rfl⟩)) (Nat.le_refl _) _) (Nat.le_refl _) _⟩
      · have k0 : ((k : Int) == 0) = false := by simp; omega
        by_cases e1 : k = 1
        · have k1 : ((k : Int) == 1) = true := by simp; omega
          have k2 : decide ((k : Int) + 1 < 5) = true := by simp; omega
          have E1 := Lib.hid e1
          clear e1 e0
          by_cases hx : l[k].toNat = 154
          · have hx1 : ((l[k].toNat : Int) != 154) = false := by simp [hx]
            have hx2 := Lib.hid hx
            clear hx
            go_wp2
            go_roundw
            case rel => exact ⟨⟨rfl, k + 1, by omega, by have := E1.out; omega, by go_num, fun _ => hb0 (by have := E1.out; omega), fun _ => by have h1 := E1.out; have h2 := hx2.out; subst h1; rw [hba]; exact h2⟩, ⟨m, rfl⟩⟩
            case measure => have := E1.out; simp [intOf]; omega
          · have hx1 : ((l[k].toNat : Int) != 154) = true := by simp; omega
            have hx2 := Lib.hid hx
            clear hx
            go_wp2
            rw [Exit.noGoto_ret]
            have hw := (((Blk.new w 42 #[.int .u8 0, .slice none 0 0]).drewN m).set 0 (.int .u8 0)).set 1 (.slice none 0 0)
            refine bodyPost_ret (results_ctt rfl _ _ ⟨w.heap.size, 0, none⟩ _ _ _ rfl rfl rfl (loadVar_frame _ _ _ rfl hw)) rfl ?_
            have hf : ferr l = 3 := by
              have h1 := E1.out; have h2 := hx2.out; subst h1
              unfold ferr; rw [if_pos (.inr ⟨hlt, by rw [hba]; exact h2⟩)]
            rw [HR.out, fread_fail hf (by omega)]
            exact ⟨_, rfl, PayV.nil _ _, grew_set (grew_set (Grew.trans (grew_alloc _ _) (Drew.grew ⟨m, rfl⟩)) (Nat.le_refl _) _) (Nat.le_refl _) _⟩
        · have k1 : ((k : Int) == 1) = false := by simp; omega
          by_cases e4 : k < 4
          · have k2 : decide ((k : Int) + 1 < 5) = true := by simp; omega
            have E1 : RowKit.Hid (1 < k) := by show 1 < k; omega
            have E4 := Lib.hid e4
            clear e1 e0 e4
            go_wp2
            go_roundw
            case rel => exact ⟨⟨rfl, k + 1, by omega, by have := E4.out; omega, by go_num, fun _ => hb0 (by have := E1.out; omega), fun _ => hb1 E1.out⟩, ⟨m, rfl⟩⟩
            case measure => have := E4.out; simp [intOf]; omega
          · obtain rfl : k = 4 := by omega
            have q0 := hb0 (by omega)
            have q1 := hb1 (by omega)
            have hform : ¬ ((0 < l.length ∧ byteAt l 0 ≠ 197) ∨ (1 < l.length ∧ byteAt l 1 ≠ 154)) := by
              rintro (⟨_, h'⟩ | ⟨_, h'⟩)
              · exact h' q0
              · exact h' q1
            obtain ⟨F, hF⟩ : ∃ F, F = flen l := ⟨_, rfl⟩
            have hFl : F < 65792 := by have h3 := byteAt_lt l 3; have h4 := byteAt_lt l 4; rw [hF]; unfold flen; omega
            have hfe : ferr l = if 8192 < F then 2 else if l.length < F + 9 then 4 else if cseal ((l.drop 2).take (F + 3)) = (l.drop 2).take (F + 7) then 0 else 12 := by
              rw [hF]
              conv => lhs; unfold ferr
              rw [if_neg hform, if_neg (by omega)]
            have hlen' : 5 ≤ l.length := by omega
            have kl : ∀ w', Bs w' (.slice (some ⟨b, o, none⟩) l.length c) l → Calls Tryz.prog 56 #[.slice (some ⟨b, o, none⟩) l.length c] w' fun e w'' => e = .returned (.int .i64 (F : Nat)) ∧ Drew w' w'' := fun w' h => by rw [hF]; exact flength_any l _ w' h hlen'
            have HF := Lib.hid hF
            have HE := Lib.hid hfe
            have HL := Lib.hid kl
            have hb' := Lib.hid ((HB.out.grew (grew_alloc w (.cells #[.int .u8 0, .slice none 0 0] 42))).grew (Drew.grew ⟨m, rfl⟩))
            clear hF hfe kl e0 e1 e4 q0 q1 hform hb0 hb1
            go_wp2_with fail
            refine (HL.out _ hb'.out).mono ?_
            rintro e w1 ⟨rfl, D1⟩
            have G1 : Grew w w1 := (Grew.trans (grew_alloc _ _) (Drew.grew ⟨m, rfl⟩)).trans D1.grew
            have B1 := ((Blk.new w 42 #[.int .u8 0, .slice none 0 0]).drewN m).grew D1.grew
            have hb1 := Lib.hid (hb'.out.grew D1.grew)
            clear D1 hb'
            by_cases f1 : 8192 < F
            · have d1 : decide ((F : Int) > 8192) = true := by simp; omega
              have f1' := Lib.hid f1
              clear f1
              obtain ⟨x0, x1, x2, x3⟩ := cells2 B1
              go_wp2
              rw [Exit.noGoto_ret]
              have hw := ((B1).set 0 (.int .u8 0)).set 1 (.slice none 0 0)
              refine bodyPost_ret (results_ctt rfl _ _ ⟨w.heap.size, 0, none⟩ _ _ _ rfl rfl rfl (loadVar_frame _ _ _ rfl hw)) rfl ?_
              have hf : ferr l = 2 := by rw [HE.out, if_pos f1'.out]
              rw [HR.out, fread_fail hf (by omega)]
              exact ⟨_, rfl, PayV.nil _ _, grew_set (grew_set (G1) (Nat.le_refl _) _) (Nat.le_refl _) _⟩
            · have d1 : decide ((F : Int) > 8192) = false := by simp; omega
              have f1' := Lib.hid f1
              clear f1
              go_wp2_with fail
              refine (HL.out _ hb1.out).mono ?_
              rintro e w2 ⟨rfl, D2⟩
              have G2 := Grew.trans G1 D2.grew
              have B2 := B1.grew D2.grew
              have hb2 := Lib.hid (hb1.out.grew D2.grew)
              clear D2
              have hsz : fsize (F : Int) = (F : Int) + 9 := by unfold fsize; rw [if_neg (by have := f1'.out; omega)]
              have ks : ∀ w', Calls Tryz.prog 34 #[.int .i64 F] w' fun e w'' => e = .returned (.int .i64 ((F : Int) + 9)) ∧ w' = w'' := fun w' => by rw [← hsz]; exact fsize_any _ w' (by omega) (by omega)
              have KS := Lib.hid ks
              clear hsz ks
              go_wp2_with fail
              refine (KS.out _).mono ?_
              rintro e w3 ⟨rfl, rfl⟩
              by_cases f2 : l.length < F + 9
              · have d2 : decide ((l.length : Int) < (F : Int) + 9) = true := by simp; omega
                have f2' := Lib.hid f2
                clear f2
                obtain ⟨x0, x1, x2, x3⟩ := cells2 B2
                go_wp2
                rw [Exit.noGoto_ret]
                have hw := ((B2).set 0 (.int .u8 0)).set 1 (.slice none 0 0)
                refine bodyPost_ret (results_ctt rfl _ _ ⟨w.heap.size, 0, none⟩ _ _ _ rfl rfl rfl (loadVar_frame _ _ _ rfl hw)) rfl ?_
                have hf : ferr l = 4 := by rw [HE.out, if_neg f1'.out, if_pos f2'.out]
                rw [HR.out, fread_fail hf (by omega)]
                exact ⟨_, rfl, PayV.nil _ _, grew_set (grew_set (G2) (Nat.le_refl _) _) (Nat.le_refl _) _⟩
              · have d2 : decide ((l.length : Int) < (F : Int) + 9) = false := by simp; omega
                have f2a : F + 9 ≤ l.length := by omega
                have f2' := Lib.hid f2
                clear f2
                go_wp2_with fail
                refine (HL.out _ hb2.out).mono ?_
                rintro e w4 ⟨rfl, D3⟩
                have G3 := Grew.trans G2 D3.grew
                have B3 := B2.grew D3.grew
                have hb3 := Lib.hid (hb2.out.grew D3.grew)
                clear D3
                go_wp2_with fail
                refine (KS.out _).mono ?_
                rintro e w5 ⟨rfl, rfl⟩
                go_wp2_with fail
                obtain ⟨X, hX⟩ : ∃ X, X = (l.drop 2).take (F + 7) := ⟨_, rfl⟩
                have hcut : Bs w4 (.slice (some ⟨b, o + 2, none⟩) (F + 7) (c - 2)) X := by rw [hX]; exact bs_cut hb3.out 2 (F + 9) (by omega) f2a
                obtain ⟨hXl, hXo⟩ := copen_frame f2a
                rw [← hX] at hXl hXo
                by_cases hq : cseal ((l.drop 2).take (F + 3)) = X
                · rw [if_pos hq] at hXo
                  have hf : ferr l = 0 := by rw [HE.out, if_neg f1'.out, if_neg f2'.out, ← hX, if_pos hq]
                  obtain ⟨Y, hY⟩ : ∃ Y, Y = (l.drop 2).take (F + 3) := ⟨_, rfl⟩
                  have hYl : Y.length = F + 3 := by rw [hY]; simp; omega
                  rw [← hY] at hXo
                  obtain ⟨T, hT⟩ : ∃ T, T = l.getD 2 0 := ⟨_, rfl⟩
                  have hY0 : (bv Y)[0]? = some (.int .u8 (T.toNat : Int)) := by
                    have : Y[0]? = l[2]? := by rw [hY, List.getElem?_take_of_lt (by omega), List.getElem?_drop]
                    rw [bv, List.getElem?_map, this, hT, List.getD_eq_getElem?_getD, List.getElem?_eq_getElem (by omega)]; rfl
                  have hY3 : Y.drop 3 = (l.drop 5).take F := by rw [hY, List.drop_take, List.drop_drop]; rfl
                  have hR2 : R = ((T, Y.drop 3), F + 9, 0) := by rw [hT, hY3, HR.out, HF.out]; unfold fread; rw [if_pos hf]; rfl
                  have HR2 := Lib.hid hR2
                  have HY := Lib.hid hYl
                  have HXL := Lib.hid hXl
                  have HXO := Lib.hid hXo
                  have hTl := u8lt T
                  clear hR2 hf hX hY hYl hXl hXo hq hY3 hT
                  refine (open_any X _ _ hcut (by rw [HXL.out]; omega)).mono ?_
                  rw [HXO.out]
                  rintro e w6 ⟨v6, rfl, ho6, g6⟩
                  have hp6 := PayV.of_own ho6
                  obtain ⟨a6, n6, c6, rfl, hn6⟩ := bs_shape hp6.bs
                  obtain ⟨_, _, e6, q1, q2, q3, q4⟩ := hp6.bs.open
                  cases e6
                  have hpos : 0 < Y.length * 1 := by have := HY.out; omega
                  obtain ⟨bb, off6, rfl, hc6⟩ := q4 hpos
                  have y0 := hc6 0 _ hY0
                  rw [Nat.add_zero] at y0
                  have B6 := B3.grew g6
                  have G6 := Grew.trans G3 g6
                  obtain ⟨x0, x1, x2, x3⟩ := cells2 B6
                  have HP := Lib.hid hp6
                  have hn6' : Y.length = F + 3 := HY.out
                  clear hc6 q4 hp6 ho6 hcut
                  unfold maxLen at q2
                  go_wp2
                  go_region
                  rw [hn6'] at HP
                  have hdr := bs_dropI HP.out.1 3 (by omega)
                  have hpg : ∀ ad, (if c6 = 3 then some (⟨bb, off6, none⟩ : Addr) else some ⟨bb, off6 + 3, none⟩) = some ad → ad.block = bb := by
                    intro ad h; split at h <;> (cases h; rfl)
                  generalize hpt : (if c6 = 3 then some (⟨bb, off6, none⟩ : Addr) else some ⟨bb, off6 + 3, none⟩) = pt at hdr hpg ⊢
                  have HD := Lib.hid hdr
                  have HG := Lib.hid hpg
                  clear hpt hdr hpg
                  go_wp2
                  try rw [Exit.noGoto_ret]
                  have hw := (B6.set 0 (.int .u8 (T.toNat : Int))).set 1 (.slice pt F (c6 - 3))
                  refine bodyPost_ret (results_ctt rfl _ _ ⟨w.heap.size, 0, none⟩ _ _ _ rfl rfl rfl (loadVar_frame _ _ _ rfl hw.drew)) rfl ?_
                  rw [HR2.out]
                  have ge : Fr (· = w.heap.size) w6 (((w6.setCell ⟨w.heap.size, 0, none⟩ (.int .u8 (T.toNat : Int))).setCell ⟨w.heap.size, 1, none⟩ (.slice pt F (c6 - 3))).drew) := (((Fr.refl (· = w.heap.size) w6).set w.heap.size 0 _ (fun _ => rfl)).set w.heap.size 1 _ (fun _ => rfl)).drew
                  have hbb : w4.heap.size ≤ bb := (HP.out.2 bb rfl).1
                  have hsz4 : w.heap.size < w4.heap.size := B3.lt
                  refine ⟨_, rfl, ⟨?_, ?_⟩, (grew_set (grew_set G6 (Nat.le_refl _) _) (Nat.le_refl _) _).drew⟩
                  · have e : (Y.drop 3).length = F := by rw [List.length_drop, hn6']; omega
                    refine Sl.fr (S := (· = w.heap.size)) HD.out ge ?_
                    intro g hg _ e
                    cases pt with
                    | none => cases hg
                    | some ad => cases hg; have := HG.out ad rfl; omega
                  · intro g hg
                    have hg' : g = bb := by
                      cases pt with
                      | none => cases hg
                      | some ad => cases hg; exact HG.out ad rfl
                    subst hg'
                    refine ⟨by omega, ?_⟩
                    obtain ⟨cs, hcs⟩ := (HP.out.2 g rfl).2
                    exact ⟨cs, hcs.fr ge (by omega)⟩
                · rw [if_neg hq] at hXo
                  have hf : ferr l = 12 := by rw [HE.out, if_neg f1'.out, if_neg f2'.out, ← hX, if_neg hq]
                  have HFF := Lib.hid hf
                  have HXL := Lib.hid hXl
                  have HXO := Lib.hid hXo
                  clear hf hX hXl hXo hq
                  refine (open_any X _ _ hcut (by rw [HXL.out]; omega)).mono ?_
                  rw [HXO.out]
                  rintro e w6 ⟨v6, rfl, -, g6⟩
                  have B6 := B3.grew g6
                  have G6 := Grew.trans G3 g6
                  clear hcut
                  obtain ⟨x0, x1, x2, x3⟩ := cells2 B6
                  go_wp2
                  rw [Exit.noGoto_ret]
                  have hw := (B6.set 0 (.int .u8 0)).set 1 (.slice none 0 0)
                  refine bodyPost_ret (results_ctt rfl _ _ ⟨w.heap.size, 0, none⟩ _ _ _ rfl rfl rfl (loadVar_frame _ _ _ rfl hw)) rfl ?_
                  rw [HR.out, fread_fail HFF.out (by omega)]
                  exact ⟨_, rfl, PayV.nil _ _, grew_set (grew_set G6 (Nat.le_refl _) _) (Nat.le_refl _) _⟩
    · obtain rfl : k = l.length := by omega
      clear h4
      have hw0 := (Blk.new w 42 #[.int .u8 0, .slice none 0 0]).drewN m
      have G0 : Grew w ((w.alloc (.cells #[.int .u8 0, .slice none 0 0] 42)).drewN m) := (grew_alloc _ _).trans (Drew.grew ⟨m, rfl⟩)
      go_wp2
      rw [Exit.noGoto_ret]
      have hw := (hw0.set 0 (.int .u8 0)).set 1 (.slice none 0 0)
      refine bodyPost_ret (results_ctt rfl _ _ ⟨w.heap.size, 0, none⟩ _ _ _ rfl rfl rfl (loadVar_frame _ _ _ rfl hw)) rfl ?_
      have hf : ferr l = 4 := by
        unfold ferr; rw [if_neg, if_pos (by omega)]
        rintro (⟨h1, h'⟩ | ⟨h1, h'⟩)
        · exact h' (hb0 h1)
        · exact h' (hb1 h1)
      rw [HR.out, fread_fail hf (by omega)]
      exact ⟨_, rfl, PayV.nil _ _, grew_set (grew_set G0 (Nat.le_refl _) _) (Nat.le_refl _) _⟩
end Go.Proofs.YtbjoohafgkodcaaGreat
namespace Go.Proofs.YtbjoohafgkodcaaGreat
open Go Go.RowKit Go.Shelf

/-- a variable of two cells that is laid and stored -/
theorem grew_store2 (w : World) (o : Obj) (x y : Value) : Grew w (((w.alloc o).setCell ⟨w.heap.size, 0, none⟩ x).setCell ⟨w.heap.size, 1, none⟩ y) := grew_set (grew_set (grew_alloc _ _) (Nat.le_refl _) _) (Nat.le_refl _) _
theorem blk_store2 (w : World) (t : TypeId) (a b x y : Value) : Blk (((w.alloc (.cells #[a, b] t)).setCell ⟨w.heap.size, 0, none⟩ x).setCell ⟨w.heap.size, 1, none⟩ y) w.heap.size t #[x, y] := ((Blk.new w t #[a, b]).set 0 x).set 1 y
theorem cell_set_ne {w : World} {a : Addr} {u : Value} (h : w.cell? a = some u) (p : Addr) (v : Value) (hne : a.block ≠ p.block) : (w.setCell p v).cell? a = some u := by
  rw [World.cell?_of_block (w := w) (heap_setCell_other w p a.block v hne)]; exact h
set_option maxHeartbeats 400000 in
theorem sequal_any (a b : List UInt8) (va vb : Value) (w : World) (ha : Bs w va a) (hb : Bs w vb b) :
    Calls Tryz.prog 40 #[va, vb] w fun e w' => e = .returned (.bool (a == b)) ∧ Drew w w' := by
  obtain ⟨aa, ca, rfl, a1, a2, -, ah⟩ := ha.open
  obtain ⟨ab, cb, rfl, b1, b2, -, bh⟩ := hb.open
  unfold maxLen at a2 b2
  by_cases hlen : a.length = b.length
  · have hl1 : ((a.length : Int) != (b.length : Int)) = false := by simp [hlen]
    have hl2 : b.length ≤ a.length ∧ a.length ≤ b.length := by omega
    have HL := Lib.hid hlen
    clear hlen
    go_enter Tryz.func40, Tryz.ntmps40
    go_wp2
    go_loopw [13] (fun i wr => (∃ k : Nat, k ≤ a.length ∧ i = .int .i64 k ∧ a.take k = b.take k) ∧ Drew w wr) (fun i _ => a.length - (intOf i).toNat)
    case atStart => exact ⟨⟨0, Nat.zero_le _, rfl, rfl⟩, 0, rfl⟩
    case round =>
      obtain ⟨⟨k, hk, rfl, htk⟩, n, rfl⟩ := hrel
      by_cases hlt : k < a.length
      · obtain ⟨b1, o1, rfl, h1⟩ := ah (by omega)
        obtain ⟨b2, o2, rfl, h2⟩ := bh (by omega)
        have c1 := h1 k _ (bv_get a k hlt)
        have c2 := h2 k _ (bv_get b k (by omega))
        have hn := u8_ne a[k] b[k]
        clear h1 h2 ah bh
        have HT := Lib.hid htk
        clear htk
        go_wp2
        go_quiet (fail)
        go_wp2
        · rename_i hne
          go_ret
          exact ⟨ret_bool (ne_of_get a b k hlt (by omega) (by simpa using hne)).symm, Drew.more ⟨_, rfl⟩ _⟩
        · rename_i hne
          go_roundw
          case rel => exact ⟨⟨k + 1, by omega, by go_num, take_succ_eq a b k hlt (by omega) HT.out (by simpa using hne)⟩, ⟨_, rfl⟩⟩
          case measure => simp [intOf]; omega
      · obtain rfl : k = a.length := by omega
        have HT := Lib.hid htk
        clear htk
        go_wp2
        go_ret
        have : a = b := by have h := HT.out; rwa [List.take_length, List.take_of_length_le (by omega)] at h
        exact ⟨ret_bool (by subst this; simp), _, rfl⟩
  · have hl1 : ((a.length : Int) != (b.length : Int)) = true := by simp; omega
    have HL := Lib.hid hlen
    clear hlen ah bh
    go_enter Tryz.func40, Tryz.ntmps40
    go_wp2
    go_ret
    exact ⟨ret_bool (ne_of_len a b HL.out).symm, 0, rfl⟩
theorem u8_eq (x y : UInt8) : ((x.toNat : Int) == (y.toNat : Int)) = (x == y) := by
  have := u8_ne x y
  have h1 : ((x.toNat : Int) == (y.toNat : Int)) = !((x.toNat : Int) != (y.toNat : Int)) := by simp [bne]
  have h2 : (x == y) = !(x != y) := by simp [bne]
  rw [h1, h2, this]
theorem bv_at (l : List UInt8) (i : Nat) (h : i < l.length) : (bv l)[i]? = some (.int .u8 (byteAt l i : Int)) := by
  rw [bv_get l i h]; unfold byteAt; rw [List.getD_eq_getElem?_getD, List.getElem?_eq_getElem h]; rfl
theorem frm_eq (f g : Frm) : (f == g) = (f.1 == g.1 && f.2 == g.2) := by
  obtain ⟨a, b⟩ := f; obtain ⟨c, d⟩ := g; rfl
theorem frsame_any (f g : Frm) (va vb : Value) (w : World) (ha : Bs w va f.2) (hb : Bs w vb g.2) :
    Calls Tryz.prog 17 #[frV f.1 va, frV g.1 vb] w fun e w' => e = .returned (.bool (f == g)) ∧ Grew w w' := by
  rw [frm_eq]
  obtain ⟨a, n, c, rfl, hn⟩ := bs_shape ha
  obtain ⟨a', n', c', rfl, hn'⟩ := bs_shape hb
  have he := u8_eq f.1 g.1
  have G1 : Grew w ((w.alloc (.cells #[.int .u8 (f.1.toNat : Int), .slice a n c] 42)).alloc (.cells #[.int .u8 (g.1.toNat : Int), .slice a' n' c'] 42)) := (grew_alloc _ _).trans (grew_alloc _ _)
  have ha1 := ha.grew G1
  have hb1 := hb.grew G1
  have HA := Lib.hid ha1
  have HB := Lib.hid hb1
  clear ha hb ha1 hb1
  cases h : (f.1 == g.1) with
  | false =>
    rw [h] at he
    clear h
    go_enter Tryz.func17, Tryz.ntmps17
    go_wp2
    try go_quiet (fail)
    go_wp2
    go_ret
    exact ⟨by simp, G1⟩
  | true =>
    rw [h] at he
    clear h
    go_enter Tryz.func17, Tryz.ntmps17
    go_wp2_with fail
    refine (sequal_any _ _ _ _ _ HA.out HB.out).mono ?_
    rintro e w1 ⟨rfl, D1⟩
    go_wp2
    go_ret
    exact ⟨by simp, Grew.trans G1 D1.grew⟩
end Go.Proofs.YtbjoohafgkodcaaGreat
