/- Package tag and rescriptref02: numbers of fixed width: contracts. -/
import Derived.Test.YtcibhkiddeggmaaTag
import Derived.Laws.MakeOwn
namespace Go.Proofs.Ytcibhkiddeggmaa
open Go Go.RowKit Go.Shelf
attribute [local go_sem] Oper.semAt_some

def byL (n k : Nat) : List Nat := (List.range k).map fun i => n / 256 ^ i % 256
theorem byL_length (n k : Nat) : (byL n k).length = k := by simp [byL]
theorem byL_fix (n k : Nat) : (byL n k).map UInt8.ofNat = fixB k n := by
  induction k with
  | zero => rfl
  | succ k ih => rw [fixB_snoc, ← ih]; simp [byL, List.range_succ]
theorem byL_take (n k j : Nat) (h : j < k) : (byL n k).take j ++ (n / 256 ^ j % 256) :: (byL n k).drop (j + 1) = byL n k := by
  have e : (byL n k)[j]'(by rw [byL_length]; exact h) = n / 256 ^ j % 256 := by simp [byL]
  rw [← e, ← List.drop_eq_getElem_cons, List.take_append_drop]
theorem byL_snoc (n k j : Nat) (h : j < k) : (byL n k).take (j + 1) = (byL n k).take j ++ [n / 256 ^ j % 256] := by
  rw [List.take_succ_eq_append_getElem (by rw [byL_length]; exact h)]; simp [byL]

theorem bytesOf_any (n k : Nat) (w : World) : Calls Try.prog 113 #[.int .u64 n, .int .i64 k] w fun e w' => e = .returned (.func (.func 115) #[] #[.pointer (some ⟨w.heap.size + 1, 0, none⟩), .pointer (some ⟨w.heap.size, 0, none⟩)]) ∧ w' = (w.alloc (.cells #[.int .u64 n] 39)).alloc (.cells #[.int .i64 k] 3) := by
  go_enter Try.func113, Try.ntmps113
  go_wp2
  go_ret
  exact ⟨rfl, rfl⟩

theorem shr8 (n j : Nat) : IntKind.u8.wrap ((n : Int) / 2 ^ (8 * j)) = ((n / 256 ^ j % 256 : Nat) : Int) := by
  rw [IntKind.wrap_u8', show ((2 : Int) ^ (8 * j)) = ((256 ^ j : Nat) : Int) by rw [← two8, Int.natCast_pow]; rfl, Int.natCast_emod, Int.natCast_ediv]
  rfl

set_option maxRecDepth 100000 in
set_option maxHeartbeats 2000000 in
theorem bytes_iter (n k Bk Bn : Nat) (hk : k ≤ 8) (_hn : n < 18446744073709551616) (w : World) (hck : Blk w Bk 3 #[.int .i64 k]) (hcn : Blk w Bn 39 #[.int .u64 n]) :
    IterAll Try.prog 115 #[.pointer (some ⟨Bk, 0, none⟩), .pointer (some ⟨Bn, 0, none⟩)] (fun p : Nat => #[Value.int .u8 (p : Int)]) Eq (fun A B => KeepB Bk 3 A B ∧ KeepB Bn 39 A B) (fun pre x => x < 256 ∧ ∃ t, pre ++ x :: t = byL n k) (fun xs => xs = byL n k) w := by
  intro lp J W hW hJ hY h0
  have hk0 := hck.grew hW
  have hn0 := hcn.grew hW
  refine callsIn_of_wp Try.func115 rfl trivial ?_ rfl
  simp only [Try.ntmps115, List.size_toArray, List.length_cons, List.length_nil, Nat.reduceAdd, Nat.reduceSub, Array.replicate_succ, Array.replicate_zero, List.push_toArray, List.append_toArray, List.nil_append, List.cons_append]
  gi_wp2
  gi_loopw [4] (fun i wr => ∃ j : Nat, j ≤ k ∧ i = .int .i64 j ∧ J ((byL n k).take j) wr ∧ Blk wr Bk 3 #[.int .i64 k] ∧ Blk wr Bn 39 #[.int .u64 n]) (fun i _ => k - (intOf i).toNat)
  case atStart => exact ⟨0, Nat.zero_le _, rfl, h0, hk0, hn0⟩
  case round =>
    obtain ⟨j, hj, rfl, hJ1, hb1, hb2⟩ := hrel
    have c1 := hb1.cell 0
    have c2 := hb2.cell 0
    simp only [List.getElem?_toArray, List.getElem?_cons_zero] at c1 c2
    clear hJ hk0 hn0 hck hcn h0 hW
    by_cases hlt : j < k
    · have hs := shr8 n j
      obtain ⟨p, hp⟩ : ∃ p, n / 256 ^ j % 256 = p := ⟨_, rfl⟩
      have hp256 : p < 256 := by omega
      have htk := byL_take n k j hlt
      have hsn := byL_snoc n k j hlt
      rw [hp] at hs htk hsn
      have hd : decide (j < k) = true := by simpa using hlt
      obtain ⟨fn, tmps, assign, body, hy, hR⟩ := hY _ p wr hJ1 ⟨hp256, _, htk⟩
      have HSN := Lib.hid hsn
      clear hp htk hsn hY hJ1
      gi_wp2
      refine hR.mono ?_
      rintro e W3 ⟨rfl, hJ3, hk3, hn3⟩
      rw [← HSN.out] at hJ3
      have hb3 := hk3 _ hb1
      have hb4 := hn3 _ hb2
      clear hy hR hk3 hn3 hb1 hb2 c1 c2
      gi_wp2
      go_roundw
      case rel => exact ⟨j + 1, by omega, by go_num, hJ3, hb3, hb4⟩
      case measure => simp [intOf]; omega
    · obtain rfl : j = k := by omega
      rw [List.take_of_length_le (by rw [byL_length]; exact Nat.le_refl _)] at hJ1
      have hd : decide (j < j) = false := by simp
      clear hY
      gi_wp2
      go_end0
      exact ⟨⟨_, rfl⟩, _, rfl, hJ1⟩

/-- while 'fixed' goes -/
def FixI (b : Nat) (w : World) (pre : List Nat) (W : World) : Prop := ∃ v, Blk W b 22 #[v] ∧ OwnB W w.heap.size v (pre.map UInt8.ofNat) ∧ Grew w W
theorem FixI.ck {b : Nat} {w : World} {pre : List Nat} {n : Nat} {A B : World} (h : FixI b w pre A) (e : CK n A B) (hn : w.heap.size ≤ n) : FixI b w pre B := by
  obtain ⟨v, h1, h3, h4⟩ := h
  exact ⟨v, e.blk h1, e.own h3, e.below h4 hn⟩
set_option maxRecDepth 100000 in
set_option maxHeartbeats 2000000 in
theorem fixed_any (n k : Nat) (hk : k = 4 ∨ k = 8) (hn : n < 18446744073709551616) (w : World) : Calls Try.prog 106 #[.int .u64 n, .int .i64 k] w fun e w' => ∃ v, e = .returned v ∧ OwnB w' w.heap.size v (fixB k n) ∧ Grew w w' := by
  have hk8 : k ≤ 8 := by omega
  refine (callsIn_wide (n := 0)).1 (callsIn_of_wp_marks Try.func106 rfl trivial ?_ rfl)
  simp only [Try.ntmps106, List.size_toArray, List.length_cons, List.length_nil, Nat.reduceAdd, Nat.reduceSub, Array.replicate_succ, Array.replicate_zero, List.push_toArray, List.append_toArray, List.nil_append, List.cons_append]
  obtain ⟨i0, hi, hz0, hz1, hz2⟩ := info_parts info_u8
  obtain ⟨w1, hrun, hown, hgr⟩ := run_makeSlice_owned (P := Try.prog) (w := w) w.heap.size 22 5 i0 (.int .u8 0) 1 Try.underlying22 hi hz0 hz1 .i64 .i64 k (by omega) (by rw [hz2]; omega) (by unfold maxLen; omega) (Nat.le_refl _)
  gi_wp2_with (first | (gi_at_call 113; refine (callsIn_wide.2 (bytesOf_any _ _ _)).mono ?_; rintro e w1 ⟨rfl, rfl⟩))
  gi_wp2
  have g1 : Grew w w1 := (Below.refl _ w).grown hgr (Nat.le_refl _) (fun k hk => by cases hk)
  have hlt : w.heap.size ≤ w1.heap.size := g1.size
  clear hrun hgr
  refine wpIn_all (gf := 115) (lb := #[.pointer (some ⟨w1.heap.size + 1 + 1, 0, none⟩), .pointer (some ⟨w1.heap.size + 1, 0, none⟩)]) rfl (enters_of Try.func115 (by kernel_rfl) rfl)
    (bytes_iter n k (w1.heap.size + 1 + 1) (w1.heap.size + 1) hk8 hn _ (Blk.at (by simp)) ((Blk.at (by simp)).alloc _)) (fun A B e => e ▸ KeepsOthers.refl _) (fun A B C D h1 h2 h3 => ⟨fun cs hc => h3.blk (h2.1 _ (h1.blk hc)), fun cs hc => h3.blk (h2.2 _ (h1.blk hc))⟩) (fun _ => rfl)
    (FixI w1.heap.size w) (fun pre A B h e => e ▸ h) (fun pre A B h hc => h.ck hc (by simp; omega))
    ⟨_, ((Blk.at rfl).alloc _).alloc _, own_grew hown (((grew_alloc _ _).trans (grew_alloc _ _)).trans (grew_alloc _ _)), g1.trans (((grew_alloc _ _).trans (grew_alloc _ _)).trans (grew_alloc _ _))⟩ ?round ?done
  case round =>
    rintro lp pre x W hi ⟨hx, t, hok⟩
    have hpl : pre.length + 1 ≤ 8 := by
      have := congrArg List.length hok
      rw [byL_length] at this
      simp at this; omega
    gi_wp2
    refine ⟨trivial, ?_⟩
    rintro W2 hck hsz ⟨v, h1, h3, h4⟩
    have HOK := Lib.hid hok
    clear hi hok hck hsz hown
    have c1 := h1.cell 0
    simp only [List.getElem?_toArray, List.getElem?_cons_zero] at c1
    have hne1 : some w1.heap.size ≠ v.ownBlock := blk_ne_row h1 h3 (by decide)
    have hl : (pre.map UInt8.ofNat).length ≤ 8 := by simp; omega
    gi_wp2_with (gi_at_builtin; refine wpListIn_push rfl _ _ rfl w.heap.size v _ rfl (own_grew h3 (grew_alloc _ _)) _ rfl [UInt8.ofNat x] (bs_byte _ _ _ (ofNat_byte x hx)) (by simp only [List.length_cons, List.length_nil]; omega) (by have := h4.size; simp; omega) ?_; intro v' w2 hown1 hB1 hgb; obtain ⟨a', c', rfl, -⟩ := (Sl.of_own hown1).open; have hb1 := (h1.alloc _).kept hgb hne1; have f1' := hb1.frozen 0; have c1' := hb1.cell 0; simp only [List.getElem?_toArray, List.getElem?_cons_zero] at c1')
    refine ⟨((KeepsOthers.alloc _ _).trans (keepsOthers_app (own_grew h3 (grew_alloc _ _)) hgb)).trans (KeepsOthers.setCell _ _ _), ⟨?_, ?_⟩, _, hb1.set 0 _, ?_, ?_⟩
    · intro cs hc
      exact ((hc.alloc _).kept hgb (blk_ne_row hc h3 (by decide))).other _ _ (by simp <;> omega)
    · intro cs hc
      exact ((hc.alloc _).kept hgb (blk_ne_row hc h3 (by decide))).other _ _ (by simp <;> omega)
    · have := own_set hown1 ⟨w1.heap.size, 0, none⟩ (.slice a' (pre.map UInt8.ofNat ++ [UInt8.ofNat x]).length c') (fun e' => blk_ne_row hb1 hown1 (by decide) e'.symm)
      rw [List.map_append]
      simp only [OwnB, List.map_cons, List.map_nil, List.length_map, List.length_append, List.length_cons, List.length_nil, Nat.zero_add] at this ⊢
      exact this
    · exact grew_set (((h4.alloc h4.size _).trans (hB1.mono (by simp)))) (by omega) _
  case done =>
    rintro xs W rfl ⟨v, h1, h3, h4⟩ hD
    have c1 := h1.cell 0
    simp only [List.getElem?_toArray, List.getElem?_cons_zero] at c1
    rw [byL_fix] at h3
    obtain ⟨a, c, rfl, -⟩ := (Sl.of_own h3).open
    gi_wp2
    refine ⟨by simp, .inl ⟨_, _, rfl, run_takeDeferred hD, ?_⟩⟩
    have hck := CK.putObj _ W _ _ (.deferred none) hD rfl (Nat.le_refl _)
    refine ⟨_, results_tmp rfl _ _ _, _, rfl, ?_, Below.trans h4 (hck.toBelow (by simp; omega))⟩
    exact hck.own h3

theorem fix32_any (n : Nat) (hn : n < 4294967296) (w : World) : Calls Try.prog 88 #[.int .u32 n] w fun e w' => ∃ v, e = .returned v ∧ OwnB w' w.heap.size v (fixB 4 n) ∧ Grew w w' := by
  have h := fixed_any n 4 (.inl rfl) (by omega) w
  have H := Lib.hid h
  clear h
  go_enter Try.func88, Try.ntmps88
  go_wp2_with fail
  refine H.out.mono ?_
  rintro e w1 ⟨v, rfl, h1, h2⟩
  go_wp2
  go_ret
  exact ⟨_, rfl, h1, h2⟩
theorem fix64_any (n : Nat) (hn : n < 18446744073709551616) (w : World) : Calls Try.prog 87 #[.int .u64 n] w fun e w' => ∃ v, e = .returned v ∧ OwnB w' w.heap.size v (fixB 8 n) ∧ Grew w w' := by
  have h := fixed_any n 8 (.inr rfl) (by omega) w
  have H := Lib.hid h
  clear h
  go_enter Try.func87, Try.ntmps87
  go_wp2_with fail
  refine H.out.mono ?_
  rintro e w1 ⟨v, rfl, h1, h2⟩
  go_wp2
  go_ret
  exact ⟨_, rfl, h1, h2⟩
end Go.Proofs.Ytcibhkiddeggmaa
