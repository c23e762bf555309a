/- Contracts of package crc and of rescriptref07, as walks: the second part. -/
import Derived.Test.YtcibhkiddeggmaaCrc
namespace Go.Proofs.Ytcibhkiddeggmaa
open Go Go.RowKit Go.Shelf
attribute [local go_sem] Oper.semAt_some

theorem parts_any (a : Option Addr) (n c : Nat) (w : World) : Calls Try.prog 93 #[.slice a n c] w fun e w' => e = .returned (.func (.func 108) #[] #[.pointer (some ⟨w.heap.size, 0, none⟩)]) ∧ w' = w.alloc (.cells #[.slice a n c] 22) := by
  go_enter Try.func93, Try.ntmps93
  go_wp2
  go_ret
  exact ⟨rfl, rfl⟩

/-- one half of a byte -/
def chalf (s p : Nat) : Nat := s / 16 ^^^ cnib ((s ^^^ p) % 16)
theorem chalf_run (s : Nat) (l : List UInt8) : (nibs l).foldl chalf s = cfrom s l := by
  induction l generalizing s with
  | nil => rfl
  | cons x l ih =>
    have hx := x.toNat_lt
    have e : nibs (x :: l) = [x.toNat % 16, x.toNat / 16] ++ nibs l := rfl
    rw [e, List.foldl_append, ih]
    simp only [List.foldl_cons, List.foldl_nil, chalf]
    rw [← cnib_table s _ (by omega), ← cnib_table _ _ (by omega), ← cbyte_halves]
    show _ = cfrom s ([x] ++ l)
    rw [cfrom_append]
    simp [cfrom, bitsOf]
theorem chalf_lt (s p : Nat) (hs : s < 4294967296) : chalf s p < 4294967296 :=
  Nat.xor_lt_two_pow (n := 32) (by omega) (crun_lt _ _ (by omega))
theorem chalfs_lt (ps : List Nat) : ∀ (s : Nat), s < 4294967296 → ps.foldl chalf s < 4294967296 := by
  induction ps with
  | nil => intro s h; exact h
  | cons p ps ih => intro s h; exact ih _ (chalf_lt s p h)
theorem u32_xorn (a b : Nat) (ha : a < 4294967296) (hb : b < 4294967296) : bits .xor .u32 (a : Int) (b : Int) = ((a ^^^ b : Nat) : Int) := u32_xor_nat a b ha hb
theorem u32_and15 (a : Nat) (ha : a < 4294967296) : bits .and .u32 (a : Int) 15 = ((a % 16 : Nat) : Int) := by
  have h := u32_and_nat a 15 ha (by decide)
  rw [nat_mask4] at h; exact h

theorem nibs_lt (l : List UInt8) (p : Nat) (h : p ∈ nibs l) : p < 16 := by
  obtain ⟨x, _, hx⟩ := List.mem_flatMap.1 h
  have := x.toNat_lt
  simp at hx
  omega

set_option maxRecDepth 100000 in
set_option maxHeartbeats 2000000 in
theorem from_any (s : Nat) (l : List UInt8) (v : Value) (w : World) (hs : s < 4294967296) (hb : Bs w v l) :
    Calls Try.prog 68 #[.int .u32 s, v] w fun e w' => e = .returned (.int .u32 (cfrom s l : Nat)) ∧ Grew w w' := by
  refine (callsIn_wide (n := 0)).1 (callsIn_of_wp_marks Try.func68 rfl trivial ?_ rfl)
  simp only [Try.ntmps68, List.size_toArray, List.length_cons, List.length_nil, Nat.reduceAdd, Nat.reduceSub, Array.replicate_succ, Array.replicate_zero, List.push_toArray, List.append_toArray, List.nil_append, List.cons_append]
  have hst := fun (W : World) => run_storeCells_new (P := Try.prog) W 139 (ctabV 0) (ctabV 16) (by kernel_rfl) rfl (by kernel_rfl)
  simp only [ctabV_zero] at hst
  have hsz : (ctabV 16).size = 16 := ctabV_size 16
  obtain ⟨a, cap, rfl, -⟩ := hb.open
  gi_wp2_with (first | (gi_at_call 92; refine (callsIn_wide.2 (halves_any _)).mono ?_; rintro e w1 ⟨rfl, hg1⟩) | (gi_at_call 93; refine (callsIn_wide.2 (parts_any _ _ _ _)).mono ?_; rintro e w2 ⟨rfl, rfl⟩))
  clear hst hsz
  have hg1' : Grew w w1 := ((Below.refl _ w).alloc (Nat.le_refl _) _).trans (hg1.mono (by simp))
  have hlt : w.heap.size < w1.heap.size := by have := hg1.size; simp at this; omega
  have k0 : Blk w1 w.heap.size 37 #[.int .u32 s] := (Blk.new _ _ _).grew hg1
  have k0' := (k0.alloc (.cells (ctabV 16) 139)).alloc (.cells #[.slice a l.length cap] 22)
  have k1 := (Blk.new w1 139 (ctabV 16)).alloc (.cells #[.slice a l.length cap] 22)
  have k2 := Blk.new2 w1 (.cells (ctabV 16) 139) 22 #[.slice a l.length cap]
  have hg2 : Grew w ((w1.alloc (.cells (ctabV 16) 139)).alloc (.cells #[.slice a l.length cap] 22)) := (hg1'.alloc hg1'.size _).alloc (by simp; omega) _
  refine wpIn_all (gf := 108) (lb := #[.pointer (some ⟨w1.heap.size + 1, 0, none⟩)]) rfl (enters_of Try.func108 (by kernel_rfl) rfl)
    (parts_iter l (.slice a l.length cap) (w1.heap.size + 1) w.heap.size _ (by simp; omega) k2 (fun w' h => hb.grew (Below.trans hg2 h)))
    (fun A B e => e ▸ KeepsOthers.refl _) (fun A B C D h1 h2 h3 => h1.kp h2 h3 (by simp; omega)) (fun _ => rfl)
    (fun pre W => Blk W w.heap.size 37 #[.int .u32 (pre.foldl chalf s : Nat)] ∧ Blk W w1.heap.size 139 (ctabV 16) ∧ Grew w W)
    (fun pre A B h e => e ▸ h) (fun pre A B h hc => ⟨hc.blk h.1, hc.blk h.2.1, hc.below h.2.2 (by simp; omega)⟩)
    ⟨k0', k1, hg2⟩ ?round ?done
  case round =>
    rintro lp pre p W ⟨h1, h2, h3⟩ hok
    gi_wp2
    refine ⟨trivial, ?_⟩
    rintro W2 hck hsz ⟨h1, h2, h3⟩
    have hl := chalfs_lt pre s hs
    have hp : p < 16 := nibs_lt l p (hok.subset (by simp))
    obtain ⟨S, hS⟩ : ∃ S, pre.foldl chalf s = S := ⟨_, rfl⟩
    rw [hS] at h1 hl
    have hS' := Lib.hid hS
    clear hS
    have hX : S ^^^ p < 4294967296 := Nat.xor_lt_two_pow (n := 32) hl (by omega)
    have c1 := h1.cell 0
    simp only [List.getElem?_toArray, List.getElem?_cons_zero] at c1
    have f1 := h1.frozen 0
    have x1 := u32_xorn S p hl (by omega)
    have x2 := u32_and15 (S ^^^ p) hX
    push_cast at x2
    have c2 := h2.cell ((S ^^^ p) % 16)
    rw [ctabV_get _ _ (by omega), if_pos (by omega)] at c2
    have x3 := u32_xorn (S / 16) (cnib ((S ^^^ p) % 16)) (by omega) (crun_lt _ _ (by omega))
    push_cast at x3
    have b1 : (0 : Int) ≤ (↑(S ^^^ p) : Int) % 16 ∧ (↑(S ^^^ p) : Int) % 16 < 16 := by omega
    have b2 : ((↑(S ^^^ p) : Int) % 16).toNat = (S ^^^ p) % 16 := by omega
    clear k0 k0' k1 k2 hok hck
    gi_wp2
    refine wpIn_region_tail (open_round _) ?_ 9 (by kernel_rfl) (by kernel_rfl) (by kernel_rfl) ?_
    · rintro ⟨_, _, h⟩
      exact h
    · simp only [List.take_succ_cons, List.take_zero, List.drop_succ_cons, List.drop_zero]
      repeat still_step
      refine wpStill_nil ?_
      go_wp2
      have e : (pre ++ [p]).foldl chalf s = chalf S p := by rw [List.foldl_append, hS'.out]; rfl
      refine ⟨(KeepsOthers.setCell _ _ _).trans (KeepsOthers.drew _), ((Below.refl _ _).setCell (p := ⟨w.heap.size, 0, none⟩) (Nat.le_refl _) _).drew, ?_, h2.other _ _ (by simp; omega), (grew_set h3 (Nat.le_refl _) _).drew⟩
      rw [e]
      exact h1.set 0 _
  case done =>
    rintro xs W rfl ⟨h1, h2, h3⟩ hD
    have c1 := h1.cell 0
    simp only [List.getElem?_toArray, List.getElem?_cons_zero] at c1
    rw [chalf_run] at c1
    clear k0 k0' k1 k2 h1 h2
    gi_wp2
    refine ⟨by simp, .inl ⟨_, _, rfl, run_takeDeferred hD, ?_⟩⟩
    exact ⟨_, results_tmp rfl _ _ _, rfl, Below.trans h3 (CK.toBelow (CK.putObj w.heap.size _ _ _ _ hD rfl (by simp; omega)) (Nat.le_refl _))⟩

theorem u32_not (s : Nat) (hs : s < 4294967296) : bits .xor .u32 IntKind.u32.max (s : Int) = ((s ^^^ 4294967295 : Nat) : Int) := by
  have h := u32_xor_nat 4294967295 s (by decide) hs
  rw [Nat.xor_comm] at h
  exact h

set_option maxHeartbeats 400000 in
theorem crcof_any (l : List UInt8) (v : Value) (w : World) (hb : Bs w v l) :
    Calls Try.prog 45 #[v] w fun e w' => e = .returned (.int .u32 (csum l : Nat)) ∧ Grew w w' := by
  have hn := u32_not _ (cfrom_lt 4294967295 l (by decide))
  have hc := from_any 4294967295 l v w (by decide) hb
  rw [show ((4294967295 : Nat) : Int) = 4294967295 from rfl] at hc
  have HC := Lib.hid hc
  clear hc
  go_enter Try.func45, Try.ntmps45
  go_wp2_with (go_at_call 68; refine HC.out.mono ?_; rintro e w1 ⟨rfl, hg1⟩)
  go_ret
  exact ⟨rfl, hg1⟩


/-! ### the reference -/
theorem bit_snoc (k : Nat) (_hk : k < 8) (x : Nat) : lowBits (k + 1) x = lowBits k x ++ [x / 2 ^ k % 2 == 1] := by
  rw [lowBits_add k 1]; simp [lowBits]

theorem odd_one (y : Nat) : (((y : Int) % 2) == 1) = (y % 2 == 1) := by
  rcases Nat.mod_two_eq_zero_or_one y with h | h
  · rw [show (y : Int) % 2 = 0 by omega, h]; rfl
  · rw [show (y : Int) % 2 = 1 by omega, h]; rfl

set_option maxRecDepth 100000 in
set_option maxHeartbeats 1000000 in
theorem rfrom_any (s : Nat) (l : List UInt8) (v : Value) (w : World) (hs : s < 4294967296) (hb : Bs w v l) :
    Calls Try.prog 69 #[.int .u32 s, v] w fun e w' => e = .returned (.int .u32 (cfrom s l : Nat)) ∧ w = w' := by
  obtain ⟨a, cap, rfl, h1, h2, -, h4⟩ := hb.open
  unfold maxLen at h2
  go_enter Try.func69, Try.ntmps69
  go_wp2
  go_loop [0, 5] (fun sv i => ∃ k S : Nat, k ≤ l.length ∧ i = .int .i64 k ∧ sv = .int .u32 S ∧ S < 4294967296 ∧ Hid (S = cfrom s (l.take k))) (fun _ i => l.length - (intOf i).toNat)
  case atStart => exact ⟨0, s, Nat.zero_le _, rfl, rfl, hs, rfl⟩
  case round =>
    obtain ⟨k, S, hk, rfl, rfl, hS, HS⟩ := hrel
    by_cases hlt : k < l.length
    · obtain ⟨b, off, rfl, hc⟩ := h4 (by omega)
      have hd : decide (k < l.length) = true := by simp [hlt]
      have c1 := hc k _ (bv_get l k hlt)
      have hx := u8lt l[k]
      clear hc h4
      go_wp2
      go_loop [0, 6, 7] (fun sv vv i => ∃ j y T : Nat, j ≤ 8 ∧ i = .int .i64 j ∧ vv = .int .u8 y ∧ sv = .int .u32 T ∧ T < 4294967296 ∧ y < 256 ∧ Hid (y = l[k].toNat / 2 ^ j ∧ T = crun S (lowBits j l[k].toNat))) (fun _ _ i => 8 - (intOf i).toNat)
      case atStart => exact ⟨0, _, S, by omega, rfl, rfl, rfl, hS, by omega, by simp, rfl⟩
      case round =>
        obtain ⟨j, y, T, hj, rfl, rfl, rfl, hT, hy, HT⟩ := hrel
        by_cases hlj : j < 8
        · have ho := odd_one y
          go_wp2_with fail
          refine (rstep_any T _ _ hT).mono ?_
          rintro e w' ⟨rfl, rfl⟩
          go_wp2
          go_round
          case rel => exact ⟨j + 1, y / 2, _, by omega, by go_num, by go_num, rfl, cstep_lt _ _ hT, by omega, by rw [HT.out.1, Nat.div_div_eq_div_mul, Nat.pow_succ], by rw [bit_snoc j hlj, crun_append, ← HT.out.2, ← HT.out.1]; rfl⟩
          case measure => simp [intOf]; omega
        · obtain rfl : j = 8 := by omega
          go_wp2
          go_round
          case rel => exact ⟨k + 1, T, by omega, by go_num, rfl, hT, by rw [List.take_succ_eq_append_getElem hlt, cfrom_snoc, ← HS.out]; exact HT.out.2⟩
          case measure => simp [intOf]; omega
    · obtain rfl : k = l.length := by omega
      go_wp2
      go_ret
      exact ⟨ret_int (by rw [HS.out, List.take_length]), rfl⟩

set_option maxHeartbeats 400000 in
theorem crof_any (l : List UInt8) (v : Value) (w : World) (hb : Bs w v l) :
    Calls Try.prog 47 #[v] w fun e w' => e = .returned (.int .u32 (csum l : Nat)) ∧ w = w' := by
  have hn := u32_xorn _ 4294967295 (cfrom_lt 4294967295 l (by decide)) (by decide)
  have hc := rfrom_any 4294967295 l v w (by decide) hb
  rw [show ((4294967295 : Nat) : Int) = 4294967295 from rfl] at hc hn
  have HC := Lib.hid hc
  clear hc
  go_enter Try.func47, Try.ntmps47
  go_wp2_with fail
  refine HC.out.mono ?_
  rintro e w1 ⟨rfl, rfl⟩
  go_wp2
  go_ret
  exact ⟨rfl, rfl⟩

/-- the four bytes of a sum, the lowest first -/
def le32 (s : Nat) : List UInt8 := [UInt8.ofNat (s % 256), UInt8.ofNat (s / 256 % 256), UInt8.ofNat (s / 65536 % 256), UInt8.ofNat (s / 16777216)]
theorem le32_bv (s : Nat) (h : s < 4294967296) : bv (le32 s) = [Value.int .u8 ((s : Int) % 256), Value.int .u8 ((s : Int) / 256 % 256), Value.int .u8 ((s : Int) / 65536 % 256), Value.int .u8 ((s : Int) / 16777216)] := by
  have e : ∀ n : Nat, n < 256 → ((UInt8.ofNat n).toNat : Int) = (n : Int) := fun n hn => by
    rw [UInt8.toNat_ofNat']; omega
  simp only [bv, le32, List.map_cons, List.map_nil]
  rw [e (s % 256) (by omega), e (s / 256 % 256) (by omega), e (s / 65536 % 256) (by omega), e (s / 16777216) (by omega)]
  rw [show ((s % 256 : Nat) : Int) = (s : Int) % 256 by omega, show ((s / 256 % 256 : Nat) : Int) = (s : Int) / 256 % 256 by omega, show ((s / 65536 % 256 : Nat) : Int) = (s : Int) / 65536 % 256 by omega, show ((s / 16777216 : Nat) : Int) = (s : Int) / 16777216 by omega]
theorem le32_get (s k : Nat) (hs : s < 4294967296) (h : k < 4) : (le32 s)[k]? = some (UInt8.ofNat (s / 2 ^ (8 * k) % 256)) := by
  have : s / 16777216 % 256 = s / 16777216 := by omega
  match k, h with
  | 0, _ => simp [le32]
  | 1, _ => rfl
  | 2, _ => rfl
  | 3, _ => show some (UInt8.ofNat (s / 16777216)) = some (UInt8.ofNat (s / 16777216 % 256)); rw [this]
def cseal (l : List UInt8) : List UInt8 := l ++ le32 (csum l)

set_option maxHeartbeats 1000000 in
theorem rseal_any (l : List UInt8) (v : Value) (w : World) (hb : Bs w v l) (hlen : l.length ≤ 1000000000) :
    Calls Try.prog 30 #[v] w fun e w' => ∃ v', e = .returned v' ∧ OwnB w' w.heap.size v' (cseal l) ∧ Grew w w' := by
  obtain ⟨S, hS⟩ : ∃ S, csum l = S := ⟨_, rfl⟩
  have hl := csum_lt l
  rw [hS] at hl
  have hc := crof_any l v w hb
  rw [hS] at hc
  have HC := Lib.hid hc
  clear hc
  go_enter Try.func30, Try.ntmps30
  go_wp2_with fail
  refine HC.out.mono ?_
  rintro e w1 ⟨rfl, rfl⟩
  go_wp2_with fail
  have hlit : Bs (w.alloc (.cells #[.int .u8 ((S : Int) % 256), .int .u8 ((S : Int) / 256 % 256), .int .u8 ((S : Int) / 65536 % 256), .int .u8 ((S : Int) / 16777216)] 5)) (.slice (some ⟨w.heap.size, 0, none⟩) 4 4) (le32 S) := by
    have := Sl.of_own (World.ownsRow_lit (base := 0) (e := 5) (size := 1) w #[.int .u8 ((S : Int) % 256), .int .u8 ((S : Int) / 256 % 256), .int .u8 ((S : Int) / 65536 % 256), .int .u8 ((S : Int) / 16777216)] 4 (Nat.zero_le _) (by unfold maxLen; omega) rfl)
    unfold Bs
    rw [le32_bv S hl]
    exact this
  have hg0 : Grew w (w.alloc (.cells #[.int .u8 ((S : Int) % 256), .int .u8 ((S : Int) / 256 % 256), .int .u8 ((S : Int) / 65536 % 256), .int .u8 ((S : Int) / 16777216)] 5)) := (Below.refl _ _).alloc (Nat.le_refl _) _
  refine (join_any l (le32 S) _ _ _ (hb.grew hg0) hlit (by simp [le32]; omega)).mono ?_
  rintro e w1 ⟨v1, rfl, ho, hg⟩
  go_wp2
  go_ret
  exact ⟨_, rfl, by unfold cseal; rw [hS]; exact own_mono ho (by simp), hg0.trans (hg.mono (by simp))⟩

set_option maxHeartbeats 1000000 in
theorem seal_any (l : List UInt8) (v : Value) (w : World) (hb : Bs w v l) (hlen : l.length ≤ 1000000000) :
    Calls Try.prog 28 #[v] w fun e w' => ∃ v', e = .returned v' ∧ OwnB w' w.heap.size v' (cseal l) ∧ Grew w w' := by
  obtain ⟨S, hS⟩ : ∃ S, csum l = S := ⟨_, rfl⟩
  have hl := csum_lt l
  rw [hS] at hl
  have hc := crcof_any l v w hb
  rw [hS] at hc
  have HC := Lib.hid hc
  clear hc
  go_enter Try.func28, Try.ntmps28
  go_wp2_with fail
  refine HC.out.mono ?_
  rintro e w1 ⟨rfl, hg1⟩
  go_wp2_with fail
  refine (clone_any l _ _ (hb.grew hg1) (by omega)).mono ?_
  rintro e w2 ⟨v2, rfl, ho2, hg2⟩
  have hg2' : Grew w w2 := Grew.trans hg1 hg2
  go_wp2_with fail
  go_loopw [4, 10] (fun vv i wr => ∃ k : Nat, k ≤ 4 ∧ i = .int .i64 k ∧ OwnB wr w.heap.size vv (l ++ (le32 S).take k) ∧ Grew w wr) (fun _ i _ => 4 - (intOf i).toNat)
  case atStart => exact ⟨0, by omega, rfl, by simpa using own_mono ho2 hg1.size, hg2'⟩
  case round =>
    obtain ⟨k, hk, rfl, hown, hB⟩ := hrel
    by_cases hlt : k < 4
    · have hx : ((S : Int) / 2 ^ (8 * k)) % 256 = ((UInt8.ofNat (S / 2 ^ (8 * k) % 256)).toNat : Int) := by
        have h1 : ((S / 2 ^ (8 * k) % 256 : Nat) : Int) = (S : Int) / 2 ^ (8 * k) % 256 := by simp
        rw [← h1, UInt8.toNat_ofNat']; omega
      have hg := le32_get S k hl hlt
      have hlx : k < (le32 S).length := by simp [le32]; omega
      rw [List.getElem?_eq_getElem hlx, Option.some.injEq] at hg
      rw [← hg] at hx
      have hll : (le32 S).length = 4 := rfl
      clear hg
      go_wp2_with (at_builtin; refine wpList_push rfl _ _ rfl w.heap.size _ _ rfl (own_grew hown ((Below.refl _ _).alloc (Nat.le_refl _) _)) _ rfl [(le32 S)[k]] (Sl.one _ _ _ rfl) (by simp; omega) (by have := hB.size; simp; omega) ?_; intro v' w1 hown1 hB1 _)
      go_roundw
      case rel => exact ⟨k + 1, by omega, by go_num, by rw [List.take_succ_eq_append_getElem hlx, ← List.append_assoc]; exact hown1, (hB.alloc hB.size _).trans hB1⟩
      case measure => simp [intOf]; omega
    · obtain rfl : k = 4 := by omega
      go_wp2
      go_ret
      exact ⟨_, rfl, by unfold cseal; rw [hS]; exact hown, hB⟩

/-- the errors' numbers, and what Open gives -/
def copen (l : List UInt8) : List UInt8 × Int :=
  if l.length < 4 then ([], 4) else if cseal (l.take (l.length - 4)) = l then (l.take (l.length - 4), 0) else ([], 12)

set_option maxHeartbeats 1000000 in
theorem open_any (l : List UInt8) (v : Value) (w : World) (hb : Bs w v l) (hlen : l.length ≤ 1000000000) :
    Calls Try.prog 32 #[v] w fun e w' => ∃ v', e = .returned (.tuple #[v', .int .i64 (copen l).2]) ∧ OwnB w' w.heap.size v' (copen l).1 ∧ Grew w w' := by
  obtain ⟨a, cap, rfl, h1, h2, h3, h4⟩ := hb.open
  unfold maxLen at h2
  by_cases hs : l.length < 4
  · have hf : copen l = ([], 4) := by unfold copen; rw [if_pos hs]
    have HF := Lib.hid hf
    clear hf
    go_enter Try.func32, Try.ntmps32
    go_wp2
    go_ret2
    exact ⟨_, by rw [HF.out]; rfl, by rw [HF.out]; exact ownB_nil _ _, Below.refl _ _⟩
  · obtain ⟨d, hd⟩ : ∃ d, l.take (l.length - 4) = d := ⟨_, rfl⟩
    have hdl : d.length = l.length - 4 := by rw [← hd]; simp
    have hbd : Bs w (.slice a (l.length - 4) cap) d := by rw [← hd]; exact bs_take hb _ (by omega)
    have hn : ¬ ((l.length : Int) - 4 < 0) := by omega
    have hn2 : decide ((l.length : Int) - 4 < 0) = false := by simp; omega
    have HD := Lib.hid hdl
    clear hdl
    by_cases hq : cseal d = l
    · have hq2 : (cseal d == l) = true := by simp [hq]
      have hf : copen l = (d, 0) := by unfold copen; rw [if_neg hs, hd, if_pos hq]
      have HF := Lib.hid hf
      clear hf hq
      go_enter Try.func32, Try.ntmps32
      go_wp2_with fail
      refine (seal_any d _ _ hbd (by rw [HD.out]; omega)).mono ?_
      rintro e w1 ⟨v1, rfl, ho1, hg1⟩
      go_wp2_with fail
      refine (equal_any (cseal d) l _ _ _ (Sl.of_own ho1) (hb.grew hg1)).mono ?_
      rintro e w2 ⟨rfl, rfl⟩
      go_wp2_with fail
      refine (clone_any d _ _ (hbd.grew hg1) (by rw [HD.out]; omega)).mono ?_
      rintro e w3 ⟨v3, rfl, ho3, hg3⟩
      go_wp2
      go_ret2
      exact ⟨_, by rw [HF.out]; rfl, by rw [HF.out]; exact own_mono ho3 hg1.size, Grew.trans hg1 hg3⟩
    · have hq2 : (cseal d == l) = false := by simp [hq]
      have hf : copen l = ([], 12) := by unfold copen; rw [if_neg hs, hd, if_neg hq]
      have HF := Lib.hid hf
      clear hf hq
      go_enter Try.func32, Try.ntmps32
      go_wp2_with fail
      refine (seal_any d _ _ hbd (by rw [HD.out]; omega)).mono ?_
      rintro e w1 ⟨v1, rfl, ho1, hg1⟩
      go_wp2_with fail
      refine (equal_any (cseal d) l _ _ _ (Sl.of_own ho1) (hb.grew hg1)).mono ?_
      rintro e w2 ⟨rfl, rfl⟩
      go_wp2
      go_ret2
      exact ⟨_, by rw [HF.out]; rfl, by rw [HF.out]; exact ownB_nil _ _, hg1⟩

end Go.Proofs.Ytcibhkiddeggmaa
