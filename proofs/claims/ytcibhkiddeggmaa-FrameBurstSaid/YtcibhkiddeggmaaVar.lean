/- Package varint and rescriptref01: contracts. -/
import Derived.Test.YtcibhkiddeggmaaByt
import Derived.Test.YtcibhkiddeggmaaVarM
namespace Go.Proofs.Ytcibhkiddeggmaa
open Go Go.RowKit Go.Shelf
attribute [local go_sem] Oper.semAt_some

def lastE (x : Nat) : Nat := if 128 ≤ x then 2 else if 2 ≤ x then 1 else 0
set_option maxRecDepth 10000 in
theorem last_any (x : Nat) (w : World) : Calls Try.prog 110 #[.int .u8 x] w fun e w' => e = .returned (.int .i64 (lastE x)) ∧ w = w' := by
  by_cases h1 : 128 ≤ x
  · have e : lastE x = 2 := by unfold lastE; rw [if_pos h1]
    have E := Lib.hid e
    clear e
    go_enter Try.func110, Try.ntmps110
    go_wp2
    go_ret
    exact ⟨ret_int (by rw [E.out]; rfl), rfl⟩
  by_cases h2 : 2 ≤ x
  · have e : lastE x = 1 := by unfold lastE; rw [if_neg h1, if_pos h2]
    have E := Lib.hid e
    clear e
    go_enter Try.func110, Try.ntmps110
    go_wp2
    go_ret
    exact ⟨ret_int (by rw [E.out]; rfl), rfl⟩
  · have e : lastE x = 0 := by unfold lastE; rw [if_neg h1, if_neg h2]
    have E := Lib.hid e
    clear e
    go_enter Try.func110, Try.ntmps110
    go_wp2
    go_ret
    exact ⟨ret_int (by rw [E.out]; rfl), rfl⟩

theorem vgetL_at (l : List UInt8) (k acc : Nat) (h : k < l.length) : vgetL k acc (l.drop k) = if k = 9 ∧ 128 ≤ l[k].toNat then (0, 0, 2) else if k = 9 ∧ 2 ≤ l[k].toNat then (0, 0, 1) else if l[k].toNat < 128 then (acc + l[k].toNat * 128 ^ k, k + 1, 0) else vgetL (k + 1) (acc + (l[k].toNat - 128) * 128 ^ k) (l.drop (k + 1)) := by
  rw [List.drop_eq_getElem_cons h]; rfl

theorem ret3_eq {k1 k2 k3 : IntKind} {a1 a2 a3 b1 b2 b3 : Int} (h1 : a1 = b1) (h2 : a2 = b2) (h3 : a3 = b3) : Ending.returned (.tuple #[.int k1 a1, .int k2 a2, .int k3 a3]) = .returned (.tuple #[.int k1 b1, .int k2 b2, .int k3 b3]) := by rw [h1, h2, h3]
set_option maxRecDepth 100000 in
set_option maxHeartbeats 1000000 in
theorem get_any (l : List UInt8) (v : Value) (w : World) (hb : Bs w v l) : Calls Try.prog 96 #[v] w fun e w' => e = .returned (.tuple #[.int .u64 (vget l).1, .int .i64 (vget l).2.1, .int .i64 (vget l).2.2]) ∧ w = w' := by
  obtain ⟨a, c, rfl, h1, h2, -, hc⟩ := hb.open
  unfold maxLen at h2
  obtain ⟨R, hR⟩ : ∃ R, vget l = R := ⟨_, rfl⟩
  rw [hR]
  have HR := Lib.hid hR
  clear hR
  go_enter Try.func96, Try.ntmps96
  go_wp2
  go_step3
  go_wp2
  go_step3
  go_wp2
  go_loop [5, 11] (fun n i => ∃ k acc : Nat, k ≤ l.length ∧ k ≤ 9 ∧ i = .int .i64 k ∧ n = .int .u64 acc ∧ acc < 128 ^ k ∧ vgetL k acc (l.drop k) = R) (fun _ i => l.length - (intOf i).toNat)
  case atStart => exact ⟨0, 0, by omega, by omega, rfl, rfl, by simp, HR.out⟩
  case round =>
    obtain ⟨k, acc, hk, hk9, rfl, rfl, hacc, hv⟩ := hrel
    by_cases hlt : k < l.length
    · obtain ⟨b, off, rfl, hcell⟩ := hc (by omega)
      rw [vgetL_at l k acc hlt] at hv
      have c1 := hcell k _ (bv_get l k hlt)
      have hx := l[k].toNat_lt
      obtain ⟨x, hxe⟩ : ∃ x, l[k].toNat = x := ⟨_, rfl⟩
      rw [hxe] at hv c1 hx
      have HX := Lib.hid hxe
      have hp := pow128_le k hk9
      obtain ⟨p, hpe⟩ : ∃ p, 128 ^ k = p := ⟨_, rfl⟩
      rw [hpe] at hacc
      clear hxe hc hcell hp
      have hs := fun h9 => seven_or x acc k hx (by rw [hpe]; exact hacc) hk9 h9
      rw [hpe] at hs
      by_cases h9 : k = 9
      · subst h9
        have h9 : 9 = 9 := rfl
        by_cases h128 : 128 ≤ x
        · have el : lastE x = 2 := by unfold lastE; rw [if_pos h128]
          rw [if_pos ⟨h9, h128⟩] at hv
          have HV := Lib.hid hv
          have EL := Lib.hid el
          clear hv hs hpe h9 el
          go_wp2_with (go_at_call 110; refine (last_any _ _).mono ?_; rintro e w' ⟨rfl, rfl⟩; rw [EL.out])
          (try rw [Exit.noGoto_ret])
          go_ret3
          rw [← HV.out]
          exact ⟨rfl, rfl⟩
        by_cases h2' : 2 ≤ x
        · have el : lastE x = 1 := by unfold lastE; rw [if_neg h128, if_pos h2']
          rw [if_neg (by omega), if_pos ⟨h9, h2'⟩] at hv
          have HV := Lib.hid hv
          have EL := Lib.hid el
          clear hv hs hpe h9 el
          go_wp2_with (go_at_call 110; refine (last_any _ _).mono ?_; rintro e w' ⟨rfl, rfl⟩; rw [EL.out])
          (try rw [Exit.noGoto_ret])
          go_ret3
          rw [← HV.out]
          exact ⟨rfl, rfl⟩
        · have el : lastE x = 0 := by unfold lastE; rw [if_neg h128, if_neg h2']
          rw [if_neg (by omega), if_neg (by omega), if_pos (by omega), hpe] at hv
          have h128' : x < 128 := by omega
          have hs9 := hs (by omega)
          rw [show (2 : Int) ^ (7 * 9) = 9223372036854775808 by decide] at hs9
          have HS := Lib.hid hs9
          have HV := Lib.hid hv
          have EL := Lib.hid el
          clear hv hs hs9 hpe h9 el
          go_wp2_with (go_at_call 110; refine (last_any _ _).mono ?_; rintro e w' ⟨rfl, rfl⟩; rw [EL.out])
          (try rw [Exit.noGoto_ret])
          go_ret3
          rw [← HV.out]
          exact ⟨ret3_eq (by rw [HS.out, Nat.mod_eq_of_lt h128']) (by simp) rfl, rfl⟩
      · have h10 : ((k : Int) == 10) = false := by simp; omega
        have h9' : ((k : Int) == 9) = false := by simp; omega
        have HS := Lib.hid (hs (by omega))
        by_cases h128 : x < 128
        · rw [if_neg (by omega), if_neg (by omega), if_pos h128, hpe] at hv
          have HV := Lib.hid hv
          clear hv hs hpe h9
          go_wp2
          (try rw [Exit.noGoto_ret])
          go_ret3
          rw [← HV.out]
          exact ⟨ret3_eq (by rw [HS.out, Nat.mod_eq_of_lt h128]) (by simp) rfl, rfl⟩
        · rw [if_neg (by omega), if_neg (by omega), if_neg h128] at hv
          have HV := Lib.hid hv
          have HP := Lib.hid hpe
          clear hv hs hpe
          go_wp2
          go_round
          case rel => exact ⟨k + 1, acc + (x - 128) * 128 ^ k, by omega, by omega, by go_num, by rw [HS.out, HP.out, show x % 128 = x - 128 by omega], mul_pow_lt _ _ _ (by rw [HP.out]; exact hacc) (by omega), HV.out⟩
          case measure => simp [intOf]; omega
    · obtain rfl : k = l.length := by omega
      rw [List.drop_length] at hv
      have HV := Lib.hid hv
      clear hv hc
      go_wp2
      (try rw [Exit.noGoto_ret])
      go_ret3
      rw [← HV.out]
      exact ⟨rfl, rfl⟩

/-- one byte in a block of its own -/
theorem bs_byte (w : World) (x : Int) (b : UInt8) (h : (b.toNat : Int) = x) : Bs (w.alloc (.cells #[.int .u8 x] 5)) (.slice (some ⟨w.heap.size, 0, none⟩) 1 1) [b] := by
  subst h
  exact Sl.one _ _ _ rfl
theorem ofNat_byte (n : Nat) (h : n < 256) : ((UInt8.ofNat n).toNat : Int) = (n : Int) := by rw [UInt8.toNat_ofNat']; omega


/-! ## the iterator over groups of seven bits -/
def sevL (n : Nat) : List (Nat × Bool) := if h : n < 128 then [(n, false)] else (n % 128, true) :: sevL (n / 128)
termination_by n
decreasing_by omega
theorem sevL_small (n : Nat) (h : n < 128) : sevL n = [(n, false)] := by rw [sevL, dif_pos h]
theorem sevL_big (n : Nat) (h : ¬ n < 128) : sevL n = (n % 128, true) :: sevL (n / 128) := by rw [sevL, dif_neg h]
def sevB (p : Nat × Bool) : UInt8 := UInt8.ofNat (if p.2 then p.1 + 128 else p.1)
theorem sevL_vput (n : Nat) : (sevL n).map sevB = vput n := by
  induction n using Nat.strongRecOn with
  | _ n ih =>
    by_cases h : n < 128
    · rw [sevL_small n h, vput_small n h]; rfl
    · rw [sevL_big n h, vput_big n h, List.map_cons, ih _ (by omega)]; rfl
def encSev (p : Nat × Bool) : Array Value := #[.int .u8 p.1, .bool p.2]
/-- the iterator turns its own number alone -/
def StB (Bn : Nat) (A B : World) : Prop := ∃ v, B = A.setCell ⟨Bn, 0, none⟩ v
def cellNat (w : World) (Bn : Nat) : Nat := match w.cell? ⟨Bn, 0, none⟩ with | some v => (intOf v).toNat | none => 0

theorem sevens_any (n : Nat) (w : World) : Calls Try.prog 105 #[.int .u64 n] w fun e w' => e = .returned (.func (.func 112) #[] #[.pointer (some ⟨w.heap.size, 0, none⟩)]) ∧ w' = w.alloc (.cells #[.int .u64 n] 39) := by
  go_enter Try.func105, Try.ntmps105
  go_wp2
  go_ret
  exact ⟨rfl, rfl⟩

set_option maxRecDepth 100000 in
set_option maxHeartbeats 2000000 in
theorem sevens_iter (n Bn : Nat) (hn : n < 18446744073709551616) (w : World) (hc : Blk w Bn 39 #[.int .u64 n]) :
    IterAll Try.prog 112 #[.pointer (some ⟨Bn, 0, none⟩)] encSev (StB Bn) (KeepB Bn 39) (fun pre x => ∃ t, pre ++ x :: t = sevL n) (fun xs => xs = sevL n) w := by
  intro lp J W hW hJ hY h0
  have hcW := hc.grew hW
  refine callsIn_of_wp Try.func112 rfl trivial ?_ rfl
  simp only [Try.ntmps112, List.size_toArray, List.length_cons, List.length_nil, Nat.reduceAdd, Nat.reduceSub, Array.replicate_succ, Array.replicate_zero, List.push_toArray, List.append_toArray, List.nil_append, List.cons_append]
  gi_wp2
  gi_loopw [3] (fun _ wr => ∃ (m : Nat) (pre : List (Nat × Bool)), m < 18446744073709551616 ∧ sevL n = pre ++ sevL m ∧ J pre wr ∧ Blk wr Bn 39 #[.int .u64 m]) (fun _ wr => cellNat wr Bn)
  case atStart => exact ⟨n, [], hn, rfl, h0, hcW⟩
  case round =>
    obtain ⟨m, pre, hm, hv, hJ1, hb⟩ := hrel
    have hc1 := hb.cell 0
    have hf1 := hb.frozen 0
    simp only [List.getElem?_toArray, List.getElem?_cons_zero] at hc1
    clear hcW hc h0 hW
    by_cases hlt : m < 128
    · rw [sevL_small m hlt] at hv
      obtain ⟨fn, tmps, assign, body, hy, hR⟩ := hY pre (m, false) wr hJ1 ⟨[], hv.symm⟩
      simp only [encSev] at hy
      have HV := Lib.hid hv
      clear hv hJ hY hJ1
      have hmod : (m : Int) % 128 = m := by omega
      have hd : decide (128 ≤ (m : Int)) = false := by simp; omega
      gi_wp2
      refine hR.mono ?_
      rintro e W3 ⟨rfl, hJ3, hk3⟩
      have hb3 := hk3 _ hb
      have hc3 := hb3.cell 0
      simp only [List.getElem?_toArray, List.getElem?_cons_zero] at hc3
      clear hy hR hk3 hc1 hf1 hb
      gi_wp2
      go_end0
      exact ⟨⟨_, rfl⟩, _, HV.out.symm, hJ3⟩
    · rw [sevL_big m hlt] at hv
      obtain ⟨fn, tmps, assign, body, hy, hR⟩ := hY pre (m % 128, true) wr hJ1 ⟨_, hv.symm⟩
      simp only [encSev] at hy
      push_cast at hy
      have HV := Lib.hid hv
      have HJ := Lib.hid hJ
      clear hv hJ hY hJ1
      have hb1 : (0 : Int) ≤ (m : Int) % 128 ∧ (m : Int) % 128 < 128 := by omega
      have hd : decide (128 ≤ (m : Int)) = true := by simp; omega
      gi_wp2
      refine hR.mono ?_
      rintro e W3 ⟨rfl, hJ3, hk3⟩
      have hb3 := hk3 _ hb
      have hc3 := hb3.cell 0
      have hf3 := hb3.frozen 0
      simp only [List.getElem?_toArray, List.getElem?_cons_zero] at hc3
      clear hy hR hk3
      gi_wp2
      go_roundw
      case rel => exact ⟨m / 128, pre ++ [(m % 128, true)], by omega, by rw [HV.out]; simp, HJ.out _ _ _ hJ3 ⟨_, rfl⟩, by have h := hb3.set 0 (.int .u64 ((m : Int) / 128)); push_cast; exact h⟩
      case measure =>
        have h := (hb3.set 0 (.int .u64 ((m : Int) / 128))).cell 0
        have h' : (W3.setCell ⟨Bn, 0, none⟩ (.int .u64 ((m : Int) / 128))).cell? ⟨Bn, 0, none⟩ = some (.int .u64 ((m : Int) / 128)) := h
        unfold cellNat
        rw [h', hc1]
        simp only [intOf]
        omega

theorem or128 (b : Nat) (h : b < 128) : bits .or .u8 (b : Int) 128 = (b : Int) + 128 := by
  have h1 := u8_or_nat b 128 (by omega) (by decide)
  rw [show ((128 : Nat) : Int) = 128 from rfl] at h1
  have h2 := or_add b 1 7 h
  simp only [Nat.one_mul, Nat.reducePow] at h2
  rw [h1, h2]
  omega
/-- while Put goes -/
def PutI (w : World) (pre : List (Nat × Bool)) (W : World) : Prop := ∃ v u, Blk W w.heap.size 22 #[v] ∧ Blk W (w.heap.size + 1) 39 #[u] ∧ OwnB W w.heap.size v (pre.map sevB) ∧ Grew w W
theorem PutI.ck {w : World} {pre : List (Nat × Bool)} {n : Nat} {A B : World} (h : PutI w pre A) (e : CK n A B) (hn : w.heap.size ≤ n) : PutI w pre B := by
  obtain ⟨v, u, h1, h2, h3, h4⟩ := h
  exact ⟨v, u, e.blk h1, e.blk h2, e.own h3, e.below h4 hn⟩
theorem PutI.st {w : World} {pre : List (Nat × Bool)} {A B : World} (h : PutI w pre A) (e : StB (w.heap.size + 1) A B) : PutI w pre B := by
  obtain ⟨v, u, h1, h2, h3, h4⟩ := h
  obtain ⟨x, rfl⟩ := e
  exact ⟨v, x, h1.other _ _ (by simp), h2.set 0 x, own_set h3 _ _ (fun e' => blk_ne_row h2 h3 (by decide) e'.symm), grew_set h4 (by omega) _⟩
theorem sevL_bd (n : Nat) : ∀ p ∈ sevL n, p.1 < 128 := by
  induction n using Nat.strongRecOn with
  | _ n ih =>
    intro p hp
    by_cases h : n < 128
    · rw [sevL_small n h] at hp; simp at hp; subst hp; exact h
    · rw [sevL_big n h] at hp
      rcases List.mem_cons.1 hp with rfl | hp
      · show n % 128 < 128; omega
      · exact ih _ (by omega) p hp
set_option maxRecDepth 100000 in
set_option maxHeartbeats 2000000 in
theorem put_any (n : Nat) (hn : n < 18446744073709551616) (w : World) : Calls Try.prog 86 #[.int .u64 n] w fun e w' => ∃ v, e = .returned v ∧ OwnB w' w.heap.size v (vput n) ∧ Grew w w' := by
  refine (callsIn_wide (n := 0)).1 (callsIn_of_wp_marks Try.func86 rfl trivial ?_ rfl)
  simp only [Try.ntmps86, List.size_toArray, List.length_cons, List.length_nil, Nat.reduceAdd, Nat.reduceSub, Array.replicate_succ, Array.replicate_zero, List.push_toArray, List.append_toArray, List.nil_append, List.cons_append]
  gi_wp2_with (gi_at_call 105; refine (callsIn_wide.2 (sevens_any _ _)).mono ?_; rintro e w1 ⟨rfl, rfl⟩)
  have hlen := vput_len10 n hn
  rw [← sevL_vput, List.length_map] at hlen
  refine wpIn_all (gf := 112) (lb := #[.pointer (some ⟨w.heap.size + 1, 0, none⟩)]) rfl (enters_of Try.func112 (by kernel_rfl) rfl)
    (sevens_iter n (w.heap.size + 1) hn _ (Blk.at (by simp))) (fun A B ⟨v, e⟩ => e ▸ KeepsOthers.setCell _ _ _) (fun A B C D h1 h2 h3 cs hc => h3.blk (h2 _ (h1.blk hc))) (fun _ => rfl)
    (PutI w) (fun pre A B h e => h.st e) (fun pre A B h hc => h.ck hc (by simp; omega))
    ⟨_, _, (Blk.new _ _ _).alloc _, Blk.at (by simp), ownB_nil _ _, ((Below.refl _ _).alloc (Nat.le_refl _) _).alloc (by simp) _⟩ ?round ?done
  case round =>
    rintro lp pre ⟨x, g⟩ W hi ⟨t, hok⟩
    have hpl : pre.length + 1 ≤ 10 := by
      have := congrArg List.length hok
      simp at this; omega
    have hx : x < 128 := sevL_bd n (x, g) (by rw [← hok]; simp)
    simp only [encSev]
    gi_wp2
    refine ⟨trivial, ?_⟩
    rintro W2 hck hsz ⟨v, u, h1, h2, h3, h4⟩
    have HOK := Lib.hid hok
    clear hi hok hck hsz
    have c1 := h1.cell 0
    simp only [List.getElem?_toArray, List.getElem?_cons_zero] at c1
    have hne1 : some w.heap.size ≠ v.ownBlock := blk_ne_row h1 h3 (by decide)
    have hne2 : some (w.heap.size + 1) ≠ v.ownBlock := blk_ne_row h2 h3 (by decide)
    have ho := or128 x hx
    have HO := Lib.hid hne1
    have hl : (pre.map sevB).length ≤ 10 := by simp; omega
    cases g with
    | true =>
      gi_wp2_with (gi_at_builtin; refine wpListIn_push rfl _ _ rfl w.heap.size v _ rfl (own_grew h3 (grew_alloc _ _)) _ rfl [sevB (x, true)] (bs_byte _ _ _ (by rw [sevB, ofNat_byte _ (by simp; omega)]; push_cast; rfl)) (by simp only [List.length_cons, List.length_nil]; omega) (by have := h4.size; simp; omega) ?_; intro v' w1 hown1 hB1 hgb; obtain ⟨a', c', rfl, -⟩ := (Sl.of_own hown1).open; have hb1 := (h1.alloc _).kept hgb hne1; have f1' := hb1.frozen 0; have c1' := hb1.cell 0; simp only [List.getElem?_toArray, List.getElem?_cons_zero] at c1')
      refine ⟨((KeepsOthers.alloc _ _).trans (keepsOthers_app (own_grew h3 (grew_alloc _ _)) hgb)).trans (KeepsOthers.setCell _ _ _), ?_, _, u, hb1.set 0 _, ((h2.alloc _).kept hgb hne2).other _ _ (by simp), ?_, ?_⟩
      · intro cs hc
        exact ((hc.alloc _).kept hgb (blk_ne_row hc h3 (by decide))).other _ _ (by simp)
      · have := own_set hown1 ⟨w.heap.size, 0, none⟩ (.slice a' (pre.map sevB ++ [sevB (x, true)]).length c') (fun e' => blk_ne_row hb1 hown1 (by decide) e'.symm)
        rw [List.map_append]
        simp only [OwnB, List.map_cons, List.map_nil, List.length_map, List.length_append, List.length_cons, List.length_nil, Nat.zero_add] at this ⊢
        exact this
      · exact grew_set (((h4.alloc h4.size _).trans (hB1.mono (by simp)))) (by omega) _
    | false =>
      gi_wp2_with (gi_at_builtin; refine wpListIn_push rfl _ _ rfl w.heap.size v _ rfl (own_grew h3 (grew_alloc _ _)) _ rfl [sevB (x, false)] (bs_byte _ _ _ (by rw [sevB, ofNat_byte _ (by simp; omega)]; rfl)) (by simp only [List.length_cons, List.length_nil]; omega) (by have := h4.size; simp; omega) ?_; intro v' w1 hown1 hB1 hgb; obtain ⟨a', c', rfl, -⟩ := (Sl.of_own hown1).open; have hb1 := (h1.alloc _).kept hgb hne1; have f1' := hb1.frozen 0; have c1' := hb1.cell 0; simp only [List.getElem?_toArray, List.getElem?_cons_zero] at c1')
      refine ⟨((KeepsOthers.alloc _ _).trans (keepsOthers_app (own_grew h3 (grew_alloc _ _)) hgb)).trans (KeepsOthers.setCell _ _ _), ?_, _, u, hb1.set 0 _, ((h2.alloc _).kept hgb hne2).other _ _ (by simp), ?_, ?_⟩
      · intro cs hc
        exact ((hc.alloc _).kept hgb (blk_ne_row hc h3 (by decide))).other _ _ (by simp)
      · have := own_set hown1 ⟨w.heap.size, 0, none⟩ (.slice a' (pre.map sevB ++ [sevB (x, false)]).length c') (fun e' => blk_ne_row hb1 hown1 (by decide) e'.symm)
        rw [List.map_append]
        simp only [OwnB, List.map_cons, List.map_nil, List.length_map, List.length_append, List.length_cons, List.length_nil, Nat.zero_add] at this ⊢
        exact this
      · exact grew_set (((h4.alloc h4.size _).trans (hB1.mono (by simp)))) (by omega) _
  case done =>
    rintro xs W rfl ⟨v, u, h1, h2, h3, h4⟩ hD
    have c1 := h1.cell 0
    simp only [List.getElem?_toArray, List.getElem?_cons_zero] at c1
    rw [sevL_vput] at h3
    obtain ⟨a, c, rfl, -⟩ := (Sl.of_own h3).open
    gi_wp2
    refine ⟨by simp, .inl ⟨_, _, rfl, run_takeDeferred hD, ?_⟩⟩
    have hck := CK.putObj _ W _ _ (.deferred none) hD rfl (Nat.le_refl _)
    refine ⟨_, results_tmp rfl _ _ _, _, rfl, ?_, Below.trans h4 (hck.toBelow (by simp; omega))⟩
    exact hck.own h3
end Go.Proofs.Ytcibhkiddeggmaa
