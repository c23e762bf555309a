/- rescriptlaw04.one: contracts, kind by kind. -/
import Derived.Test.YtakogncnkbgkfaaInb
namespace Go.Proofs.Ytakogncnkbgkfaa
open Go Go.RowKit Go.Shelf
attribute [local go_sem] Oper.semAt_some

/-- where one is behind an ask -/
def askR (l : List UInt8) (at_ kind : Nat) (n : Int) : Nat :=
  if kind = 0 then at_ + (vget (l.drop at_)).2.1 else if kind = 1 then (tagR l at_).2.2.2 else if kind = 2 then (fixR l at_ 4).2.2
  else if kind = 3 then (fixR l at_ 8).2.2 else if kind = 4 then (bytesR l at_ n).2.2 else (takeR l at_ n).2.2
/-- of the blocks that there were only these two may have turned -/
abbrev Two (p q : Nat) : Nat → Prop := fun k => k = p ∨ k = q
theorem fixR_lt (l : List UInt8) (at_ k : Nat) : (fixR l at_ k).1 < 256 ^ k := by
  rw [fixR_tread]; exact tread_lt _ _
theorem two_l {p q : Nat} {a b : World} (h : Fr (fun k => k = p) a b) : Fr (Two p q) a b := h.mono fun _ e => .inl e
theorem two_r {p q : Nat} {a b : World} (h : Fr (fun k => k = q) a b) : Fr (Two p q) a b := h.mono fun _ e => .inr e

set_option maxRecDepth 100000 in
set_option maxHeartbeats 4000000 in
theorem one_0 (l : List UInt8) (p q at_ : Nat) (n : Int) (hn0 : -9223372036854775808 ≤ n) (hn : n ≤ 9223372036854775807) (hl : l.length ≤ 1000) (hpq : p ≠ q) (w : World) (hi : InI w p l at_) (hr : InR w q l at_) :
    Calls Try.prog 22 #[.pointer (some ⟨p, 0, none⟩), .pointer (some ⟨q, 0, none⟩), .agg #[.int .u8 0, .int .i64 n]] w fun e w' => e = .returned (.bool true) ∧ InI w' p l (at_ + (vget (l.drop at_)).2.1) ∧ InR w' q l (at_ + (vget (l.drop at_)).2.1) ∧ Fr (Two p q) w w' := by
  have g0 := grew_alloc w (.cells #[.int .u8 0, .int .i64 n] 56)
  have hi0 := hi.grew g0
  have hr0 := hr.grew g0
  obtain ⟨b0, b1, -, -⟩ := cells_of (Blk.new w 56 #[.int .u8 0, .int .i64 n])
  have bb := Blk.new w 56 #[.int .u8 0, .int .i64 n]
  have hp := hi.lt
  have hq := hr.lt
  have kp := fun w h => ivarint_any l p at_ w h
  have kr := fun w h => rvarint_any l q at_ w h
  obtain ⟨R, hR⟩ : ∃ R, vget (l.drop at_) = R := ⟨_, rfl⟩
  simp only [hR] at kp kr
  rw [hR]
  obtain ⟨m, k, e⟩ := R
  simp only at kp kr
  have KP := Lib.hid kp
  have KR := Lib.hid kr
  clear kp kr hR hi hr
  go_enter Try.func22, Try.ntmps22
  go_wp2_with fail
  refine (KP.out _ hi0).mono ?_
  rintro e1 w1 ⟨rfl, hi1, f1⟩
  have c1 := (bb.fr f1 (show w.heap.size ≠ p by omega))
  have g1 := grew_alloc w1 (.cells #[.int .i64 e, .int .i64 (fltAt e at_)] 59)
  have hr1 := (hi0.other hr0 f1 (Ne.symm hpq)).grew g1
  obtain ⟨x0, x1, -, -⟩ := cells_of (c1.grew g1)
  have hi1' := hi1.grew g1
  have bf1 := Blk.new w1 59 #[.int .i64 e, .int .i64 (fltAt e at_)]
  have hq1 := hr1.lt
  have hs1 := f1.size
  simp at hq1 hs1
  clear hi0 hr0 hi1
  go_wp2_with fail
  refine (KR.out _ hr1).mono ?_
  rintro e2 w2 ⟨rfl, hr2, f2⟩
  have hi2 := hr1.other hi1' f2 hpq
  obtain ⟨y0, y1, -, -⟩ := cells_of ((bf1.fr f2 (show w1.heap.size ≠ q by omega)).grew (grew_alloc w2 (.cells #[.int .i64 e, .int .i64 (fltAt e at_)] 59)))
  obtain ⟨z0, z1, -, -⟩ := cells_of (bf1.fr f2 (show w1.heap.size ≠ q by omega))
  obtain ⟨v0, v1, -, -⟩ := cells_of (Blk.new w2 59 #[.int .i64 e, .int .i64 (fltAt e at_)])
  have hs2 := f2.size
  simp at hs2
  clear x0 x1
  go_wp2
  go_ret
  exact ⟨rfl, hi2.grew (grew_alloc _ _), hr2.grew (grew_alloc _ _), (Fr.trans (Fr.trans (Fr.trans (Fr.of_grew g0) (two_l f1)) (Fr.of_grew g1)) (two_r f2)).alloc _⟩

set_option maxRecDepth 100000 in
set_option maxHeartbeats 4000000 in
theorem one_1 (l : List UInt8) (p q at_ : Nat) (n : Int) (hn0 : -9223372036854775808 ≤ n) (hn : n ≤ 9223372036854775807) (hl : l.length ≤ 1000) (hpq : p ≠ q) (w : World) (hi : InI w p l at_) (hr : InR w q l at_) :
    Calls Try.prog 22 #[.pointer (some ⟨p, 0, none⟩), .pointer (some ⟨q, 0, none⟩), .agg #[.int .u8 1, .int .i64 n]] w fun e w' => e = .returned (.bool true) ∧ InI w' p l ((tagR l at_).2.2.2) ∧ InR w' q l ((tagR l at_).2.2.2) ∧ Fr (Two p q) w w' := by
  have g0 := grew_alloc w (.cells #[.int .u8 1, .int .i64 n] 56)
  have hi0 := hi.grew g0
  have hr0 := hr.grew g0
  obtain ⟨b0, b1, -, -⟩ := cells_of (Blk.new w 56 #[.int .u8 1, .int .i64 n])
  have bb := Blk.new w 56 #[.int .u8 1, .int .i64 n]
  have hp := hi.lt
  have hq := hr.lt
  have kp := fun w h => itag_any l p at_ w h
  have kr := fun w h => rtag_any l q at_ w h
  obtain ⟨R, hR⟩ : ∃ R, tagR l at_ = R := ⟨_, rfl⟩
  simp only [hR] at kp kr
  rw [hR]
  obtain ⟨m, m2, e, k⟩ := R
  simp only at kp kr
  have KP := Lib.hid kp
  have KR := Lib.hid kr
  clear kp kr hR hi hr
  go_enter Try.func22, Try.ntmps22
  go_wp2_with fail
  refine (KP.out _ hi0).mono ?_
  rintro e1 w1 ⟨rfl, hi1, f1⟩
  have c1 := (bb.fr f1 (show w.heap.size ≠ p by omega))
  have g1 := grew_alloc w1 (.cells #[.int .i64 e, .int .i64 (fltAt e at_)] 59)
  have hr1 := (hi0.other hr0 f1 (Ne.symm hpq)).grew g1
  obtain ⟨x0, x1, -, -⟩ := cells_of (c1.grew g1)
  have hi1' := hi1.grew g1
  have bf1 := Blk.new w1 59 #[.int .i64 e, .int .i64 (fltAt e at_)]
  have hq1 := hr1.lt
  have hs1 := f1.size
  simp at hq1 hs1
  clear hi0 hr0 hi1
  go_wp2_with fail
  refine (KR.out _ hr1).mono ?_
  rintro e2 w2 ⟨rfl, hr2, f2⟩
  have hi2 := hr1.other hi1' f2 hpq
  obtain ⟨y0, y1, -, -⟩ := cells_of ((bf1.fr f2 (show w1.heap.size ≠ q by omega)).grew (grew_alloc w2 (.cells #[.int .i64 e, .int .i64 (fltAt e at_)] 59)))
  obtain ⟨z0, z1, -, -⟩ := cells_of (bf1.fr f2 (show w1.heap.size ≠ q by omega))
  obtain ⟨v0, v1, -, -⟩ := cells_of (Blk.new w2 59 #[.int .i64 e, .int .i64 (fltAt e at_)])
  have hs2 := f2.size
  simp at hs2
  clear x0 x1
  go_wp2
  go_ret
  exact ⟨rfl, hi2.grew (grew_alloc _ _), hr2.grew (grew_alloc _ _), (Fr.trans (Fr.trans (Fr.trans (Fr.of_grew g0) (two_l f1)) (Fr.of_grew g1)) (two_r f2)).alloc _⟩

set_option maxRecDepth 100000 in
set_option maxHeartbeats 4000000 in
theorem one_2 (l : List UInt8) (p q at_ : Nat) (n : Int) (hn0 : -9223372036854775808 ≤ n) (hn : n ≤ 9223372036854775807) (hl : l.length ≤ 1000) (hpq : p ≠ q) (w : World) (hi : InI w p l at_) (hr : InR w q l at_) :
    Calls Try.prog 22 #[.pointer (some ⟨p, 0, none⟩), .pointer (some ⟨q, 0, none⟩), .agg #[.int .u8 2, .int .i64 n]] w fun e w' => e = .returned (.bool true) ∧ InI w' p l ((fixR l at_ 4).2.2) ∧ InR w' q l ((fixR l at_ 4).2.2) ∧ Fr (Two p q) w w' := by
  have g0 := grew_alloc w (.cells #[.int .u8 2, .int .i64 n] 56)
  have hi0 := hi.grew g0
  have hr0 := hr.grew g0
  obtain ⟨b0, b1, -, -⟩ := cells_of (Blk.new w 56 #[.int .u8 2, .int .i64 n])
  have bb := Blk.new w 56 #[.int .u8 2, .int .i64 n]
  have hp := hi.lt
  have hq := hr.lt
  have kp := fun w h => ifour_any l p at_ w h
  have kr := fun w h => rfixed_any l q at_ 4 (by omega) w h
  obtain ⟨R, hR⟩ : ∃ R, fixR l at_ 4 = R := ⟨_, rfl⟩
  simp only [hR] at kp kr
  rw [hR]
  obtain ⟨m, e, k⟩ := R
  have hm : m ≤ 4294967295 := by have := fixR_lt l at_ 4; rw [hR] at this; simp at this; omega
  simp only at kp kr
  have KP := Lib.hid kp
  have KR := Lib.hid kr
  clear kp kr hR hi hr
  go_enter Try.func22, Try.ntmps22
  go_wp2_with fail
  refine (KP.out _ hi0).mono ?_
  rintro e1 w1 ⟨rfl, hi1, f1⟩
  have c1 := (bb.fr f1 (show w.heap.size ≠ p by omega))
  have g1 := grew_alloc w1 (.cells #[.int .i64 e, .int .i64 (fltAt e at_)] 59)
  have hr1 := (hi0.other hr0 f1 (Ne.symm hpq)).grew g1
  obtain ⟨x0, x1, -, -⟩ := cells_of (c1.grew g1)
  have hi1' := hi1.grew g1
  have bf1 := Blk.new w1 59 #[.int .i64 e, .int .i64 (fltAt e at_)]
  have hq1 := hr1.lt
  have hs1 := f1.size
  simp at hq1 hs1
  clear hi0 hr0 hi1
  go_wp2_with fail
  refine (KR.out _ hr1).mono ?_
  rintro e2 w2 ⟨rfl, hr2, f2⟩
  have hi2 := hr1.other hi1' f2 hpq
  obtain ⟨y0, y1, -, -⟩ := cells_of ((bf1.fr f2 (show w1.heap.size ≠ q by omega)).grew (grew_alloc w2 (.cells #[.int .i64 e, .int .i64 (fltAt e at_)] 59)))
  obtain ⟨z0, z1, -, -⟩ := cells_of (bf1.fr f2 (show w1.heap.size ≠ q by omega))
  obtain ⟨v0, v1, -, -⟩ := cells_of (Blk.new w2 59 #[.int .i64 e, .int .i64 (fltAt e at_)])
  have hs2 := f2.size
  simp at hs2
  clear x0 x1
  go_wp2
  go_ret
  exact ⟨rfl, hi2.grew (grew_alloc _ _), hr2.grew (grew_alloc _ _), (Fr.trans (Fr.trans (Fr.trans (Fr.of_grew g0) (two_l f1)) (Fr.of_grew g1)) (two_r f2)).alloc _⟩

set_option maxRecDepth 100000 in
set_option maxHeartbeats 4000000 in
theorem one_3 (l : List UInt8) (p q at_ : Nat) (n : Int) (hn0 : -9223372036854775808 ≤ n) (hn : n ≤ 9223372036854775807) (hl : l.length ≤ 1000) (hpq : p ≠ q) (w : World) (hi : InI w p l at_) (hr : InR w q l at_) :
    Calls Try.prog 22 #[.pointer (some ⟨p, 0, none⟩), .pointer (some ⟨q, 0, none⟩), .agg #[.int .u8 3, .int .i64 n]] w fun e w' => e = .returned (.bool true) ∧ InI w' p l ((fixR l at_ 8).2.2) ∧ InR w' q l ((fixR l at_ 8).2.2) ∧ Fr (Two p q) w w' := by
  have g0 := grew_alloc w (.cells #[.int .u8 3, .int .i64 n] 56)
  have hi0 := hi.grew g0
  have hr0 := hr.grew g0
  obtain ⟨b0, b1, -, -⟩ := cells_of (Blk.new w 56 #[.int .u8 3, .int .i64 n])
  have bb := Blk.new w 56 #[.int .u8 3, .int .i64 n]
  have hp := hi.lt
  have hq := hr.lt
  have kp := fun w h => ieight_any l p at_ w h
  have kr := fun w h => rfixed_any l q at_ 8 (by omega) w h
  obtain ⟨R, hR⟩ : ∃ R, fixR l at_ 8 = R := ⟨_, rfl⟩
  simp only [hR] at kp kr
  rw [hR]
  obtain ⟨m, e, k⟩ := R
  simp only at kp kr
  have KP := Lib.hid kp
  have KR := Lib.hid kr
  clear kp kr hR hi hr
  go_enter Try.func22, Try.ntmps22
  go_wp2_with fail
  refine (KP.out _ hi0).mono ?_
  rintro e1 w1 ⟨rfl, hi1, f1⟩
  have c1 := (bb.fr f1 (show w.heap.size ≠ p by omega))
  have g1 := grew_alloc w1 (.cells #[.int .i64 e, .int .i64 (fltAt e at_)] 59)
  have hr1 := (hi0.other hr0 f1 (Ne.symm hpq)).grew g1
  obtain ⟨x0, x1, -, -⟩ := cells_of (c1.grew g1)
  have hi1' := hi1.grew g1
  have bf1 := Blk.new w1 59 #[.int .i64 e, .int .i64 (fltAt e at_)]
  have hq1 := hr1.lt
  have hs1 := f1.size
  simp at hq1 hs1
  clear hi0 hr0 hi1
  go_wp2_with fail
  refine (KR.out _ hr1).mono ?_
  rintro e2 w2 ⟨rfl, hr2, f2⟩
  have hi2 := hr1.other hi1' f2 hpq
  obtain ⟨y0, y1, -, -⟩ := cells_of ((bf1.fr f2 (show w1.heap.size ≠ q by omega)).grew (grew_alloc w2 (.cells #[.int .i64 e, .int .i64 (fltAt e at_)] 59)))
  obtain ⟨z0, z1, -, -⟩ := cells_of (bf1.fr f2 (show w1.heap.size ≠ q by omega))
  obtain ⟨v0, v1, -, -⟩ := cells_of (Blk.new w2 59 #[.int .i64 e, .int .i64 (fltAt e at_)])
  have hs2 := f2.size
  simp at hs2
  clear x0 x1
  go_wp2
  go_ret
  exact ⟨rfl, hi2.grew (grew_alloc _ _), hr2.grew (grew_alloc _ _), (Fr.trans (Fr.trans (Fr.trans (Fr.of_grew g0) (two_l f1)) (Fr.of_grew g1)) (two_r f2)).alloc _⟩

set_option maxRecDepth 100000 in
set_option maxHeartbeats 4000000 in
theorem one_4 (l : List UInt8) (p q at_ : Nat) (n : Int) (hn0 : -9223372036854775808 ≤ n) (hn : n ≤ 9223372036854775807) (hl : l.length ≤ 1000) (hpq : p ≠ q) (w : World) (hi : InI w p l at_) (hr : InR w q l at_) :
    Calls Try.prog 22 #[.pointer (some ⟨p, 0, none⟩), .pointer (some ⟨q, 0, none⟩), .agg #[.int .u8 4, .int .i64 n]] w fun e w' => e = .returned (.bool true) ∧ InI w' p l ((bytesR l at_ n).2.2) ∧ InR w' q l ((bytesR l at_ n).2.2) ∧ Fr (Two p q) w w' := by
  have g0 := grew_alloc w (.cells #[.int .u8 4, .int .i64 n] 56)
  have hi0 := hi.grew g0
  have hr0 := hr.grew g0
  obtain ⟨b0, b1, -, -⟩ := cells_of (Blk.new w 56 #[.int .u8 4, .int .i64 n])
  have bb := Blk.new w 56 #[.int .u8 4, .int .i64 n]
  have hp := hi.lt
  have hq := hr.lt
  have kp := fun w h => ibytes_any l p at_ n hn0 hn (by omega) w h
  have kr := fun w h => rbytes_any l q at_ n hn0 hn (by omega) w h
  obtain ⟨R, hR⟩ : ∃ R, bytesR l at_ n = R := ⟨_, rfl⟩
  simp only [hR] at kp kr
  rw [hR]
  obtain ⟨m, e, k⟩ := R
  simp only at kp kr
  have KP := Lib.hid kp
  have KR := Lib.hid kr
  clear kp kr hR hi hr
  go_enter Try.func22, Try.ntmps22
  go_wp2_with fail
  refine (KP.out _ hi0).mono ?_
  rintro e1 w1 ⟨v1, rfl, o1, hi1, f1⟩
  have s1 : Bs w1 v1 m := Sl.of_own o1
  obtain ⟨a1, ca1, rfl⟩ := bs_len s1
  have s1' := s1.grew (grew_alloc w1 (.cells #[.int .i64 e, .int .i64 (fltAt e at_)] 59))
  have c1 := (bb.fr f1 (show w.heap.size ≠ p by omega))
  have g1 := grew_alloc w1 (.cells #[.int .i64 e, .int .i64 (fltAt e at_)] 59)
  have hr1 := (hi0.other hr0 f1 (Ne.symm hpq)).grew g1
  obtain ⟨x0, x1, -, -⟩ := cells_of (c1.grew g1)
  have hi1' := hi1.grew g1
  have bf1 := Blk.new w1 59 #[.int .i64 e, .int .i64 (fltAt e at_)]
  have hq1 := hr1.lt
  have hs1 := f1.size
  simp at hq1 hs1
  clear hi0 hr0 hi1
  go_wp2_with fail
  refine (KR.out _ hr1).mono ?_
  rintro e2 w2 ⟨v2, rfl, o2, hr2, f2⟩
  have s2 : Bs w2 v2 m := Sl.of_own o2
  obtain ⟨a2, ca2, rfl⟩ := bs_len s2
  have s12 := hr1.bs f2 s1'
  have gz := grew_alloc w2 (.cells #[.int .i64 e, .int .i64 (fltAt e at_)] 59)
  have hi2 := hr1.other hi1' f2 hpq
  obtain ⟨y0, y1, -, -⟩ := cells_of ((bf1.fr f2 (show w1.heap.size ≠ q by omega)).grew (grew_alloc w2 (.cells #[.int .i64 e, .int .i64 (fltAt e at_)] 59)))
  obtain ⟨z0, z1, -, -⟩ := cells_of (bf1.fr f2 (show w1.heap.size ≠ q by omega))
  obtain ⟨v0, v1, -, -⟩ := cells_of (Blk.new w2 59 #[.int .i64 e, .int .i64 (fltAt e at_)])
  have hs2 := f2.size
  simp at hs2
  have ks := same_any m m _ _ _ (s12.grew gz) (s2.grew gz)
  rw [show (m == m) = true by simp] at ks
  have KS := Lib.hid ks
  clear ks
  clear x0 x1
  go_wp2_with fail
  refine KS.out.mono ?_
  rintro e3 w3 ⟨rfl, nd, rfl⟩
  go_wp2
  go_ret
  exact ⟨rfl, (hi2.grew (grew_alloc _ _)).grew (Drew.grew ⟨_, rfl⟩), (hr2.grew (grew_alloc _ _)).grew (Drew.grew ⟨_, rfl⟩), ((Fr.trans (Fr.trans (Fr.trans (Fr.of_grew g0) (two_l f1)) (Fr.of_grew g1)) (two_r f2)).alloc _).trans (Fr.of_grew (Drew.grew ⟨_, rfl⟩))⟩

set_option maxRecDepth 100000 in
set_option maxHeartbeats 4000000 in
theorem one_5 (l : List UInt8) (p q at_ : Nat) (kind : Nat) (hk : 5 ≤ kind) (n : Int) (hn0 : -9223372036854775808 ≤ n) (hn : n ≤ 9223372036854775807) (hl : l.length ≤ 1000) (hpq : p ≠ q) (w : World) (hi : InI w p l at_) (hr : InR w q l at_) :
    Calls Try.prog 22 #[.pointer (some ⟨p, 0, none⟩), .pointer (some ⟨q, 0, none⟩), .agg #[.int .u8 kind, .int .i64 n]] w fun e w' => e = .returned (.bool true) ∧ InI w' p l ((takeR l at_ n).2.2) ∧ InR w' q l ((takeR l at_ n).2.2) ∧ Fr (Two p q) w w' := by
  have k0 : ((kind : Int) == 0) = false := by simp; omega
  have k1 : ((kind : Int) == 1) = false := by simp; omega
  have k2 : ((kind : Int) == 2) = false := by simp; omega
  have k3 : ((kind : Int) == 3) = false := by simp; omega
  have k4 : ((kind : Int) == 4) = false := by simp; omega
  have g0 := grew_alloc w (.cells #[.int .u8 kind, .int .i64 n] 56)
  have hi0 := hi.grew g0
  have hr0 := hr.grew g0
  obtain ⟨b0, b1, -, -⟩ := cells_of (Blk.new w 56 #[.int .u8 kind, .int .i64 n])
  have bb := Blk.new w 56 #[.int .u8 kind, .int .i64 n]
  have hp := hi.lt
  have hq := hr.lt
  have kp := fun w h => itake_any l p at_ n hn (by omega) w h
  have kr := fun w h => rtake_any l q at_ n hn0 hn (by omega) w h
  obtain ⟨R, hR⟩ : ∃ R, takeR l at_ n = R := ⟨_, rfl⟩
  simp only [hR] at kp kr
  rw [hR]
  obtain ⟨m, e, k⟩ := R
  simp only at kp kr
  have KP := Lib.hid kp
  have KR := Lib.hid kr
  clear kp kr hR hi hr
  go_enter Try.func22, Try.ntmps22
  go_wp2_with fail
  refine (KP.out _ hi0).mono ?_
  rintro e1 w1 ⟨v1, rfl, o1, hi1, f1⟩
  have s1 : Bs w1 v1 m := Sl.of_own o1
  obtain ⟨a1, ca1, rfl⟩ := bs_len s1
  have s1' := s1.grew (grew_alloc w1 (.cells #[.int .i64 e, .int .i64 (fltAt e at_)] 59))
  have c1 := (bb.fr f1 (show w.heap.size ≠ p by omega))
  have g1 := grew_alloc w1 (.cells #[.int .i64 e, .int .i64 (fltAt e at_)] 59)
  have hr1 := (hi0.other hr0 f1 (Ne.symm hpq)).grew g1
  obtain ⟨x0, x1, -, -⟩ := cells_of (c1.grew g1)
  have hi1' := hi1.grew g1
  have bf1 := Blk.new w1 59 #[.int .i64 e, .int .i64 (fltAt e at_)]
  have hq1 := hr1.lt
  have hs1 := f1.size
  simp at hq1 hs1
  clear hi0 hr0 hi1
  go_wp2_with fail
  refine (KR.out _ hr1).mono ?_
  rintro e2 w2 ⟨v2, rfl, o2, hr2, f2⟩
  have s2 : Bs w2 v2 m := Sl.of_own o2
  obtain ⟨a2, ca2, rfl⟩ := bs_len s2
  have s12 := hr1.bs f2 s1'
  have gz := grew_alloc w2 (.cells #[.int .i64 e, .int .i64 (fltAt e at_)] 59)
  have hi2 := hr1.other hi1' f2 hpq
  obtain ⟨y0, y1, -, -⟩ := cells_of ((bf1.fr f2 (show w1.heap.size ≠ q by omega)).grew (grew_alloc w2 (.cells #[.int .i64 e, .int .i64 (fltAt e at_)] 59)))
  obtain ⟨z0, z1, -, -⟩ := cells_of (bf1.fr f2 (show w1.heap.size ≠ q by omega))
  obtain ⟨v0, v1, -, -⟩ := cells_of (Blk.new w2 59 #[.int .i64 e, .int .i64 (fltAt e at_)])
  have hs2 := f2.size
  simp at hs2
  have ks := same_any m m _ _ _ (s12.grew gz) (s2.grew gz)
  rw [show (m == m) = true by simp] at ks
  have KS := Lib.hid ks
  clear ks
  clear x0 x1
  go_wp2_with fail
  refine KS.out.mono ?_
  rintro e3 w3 ⟨rfl, nd, rfl⟩
  go_wp2
  go_ret
  exact ⟨rfl, (hi2.grew (grew_alloc _ _)).grew (Drew.grew ⟨_, rfl⟩), (hr2.grew (grew_alloc _ _)).grew (Drew.grew ⟨_, rfl⟩), ((Fr.trans (Fr.trans (Fr.trans (Fr.of_grew g0) (two_l f1)) (Fr.of_grew g1)) (two_r f2)).alloc _).trans (Fr.of_grew (Drew.grew ⟨_, rfl⟩))⟩
end Go.Proofs.Ytakogncnkbgkfaa
