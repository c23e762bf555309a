/- encode.put: contract. ; varint.Zig, rescriptref01.Zig: contracts; the bytes of a string. -/
import Derived.Test.YtbjoohafgkodcaaGreatPay
import Derived.Laws.BitsAllLaws
import Derived.Lib.ConvBytes
import Derived.Laws.AppendOwn
import Derived.Test.YtbjoohafgkodcaaGreatSkV
namespace Go.Proofs.YtbjoohafgkodcaaGreat
open Go Go.RowKit Go.Shelf
attribute [local go_sem] Oper.semAt_some

/-- a number with a sign, as one without -/
def zigN (n : Int) : Nat := if 0 ≤ n then 2 * n.toNat else 2 * (-(n + 1)).toNat + 1
theorem zigN_lt {n : Int} (h1 : -9223372036854775808 ≤ n) (h2 : n ≤ 9223372036854775807) : zigN n < 18446744073709551616 := by unfold zigN; split <;> omega
theorem xor_ones (x : Nat) (h : x < 18446744073709551616) : x ^^^ 18446744073709551615 = 18446744073709551615 - x := by
  have h1 : (BitVec.ofNat 64 x ^^^ BitVec.allOnes 64).toNat = (~~~ BitVec.ofNat 64 x).toNat := by rw [BitVec.xor_allOnes]
  rw [BitVec.toNat_xor, BitVec.toNat_not, BitVec.toNat_ofNat, BitVec.toNat_allOnes, Nat.mod_eq_of_lt h] at h1
  exact h1
/-! ## a string's bytes -/
/-- the bytes of a string -/
def sB (s : ByteArray) : List UInt8 := s.data.toList
theorem conv_str (s : ByteArray) (w : World) (hs : s.size ≤ 1000000000) : ∃ c, (convert 9 22 (.string s)).run Tryz.prog w = .ok (.slice (some ⟨w.heap.size, 0, none⟩) s.size c) (Lib.bytesWorld w 5 s) ∧
    Bs (Lib.bytesWorld w 5 s) (.slice (some ⟨w.heap.size, 0, none⟩) s.size c) (sB s) ∧ Grew w (Lib.bytesWorld w 5 s) := by
  refine ⟨_, Lib.run_convert_string_bytes w _ _ _ s Tryz.underlying9 Tryz.underlying22 Tryz.underlying5, ?_, ?_⟩
  · have hl : (sB s).length = s.size := by show s.data.toList.length = s.data.size; rw [Array.length_toList]
    refine ⟨by simp, _, _, by rw [hl], by rw [hl]; exact grownCap_ge _ _ _ _, grownCap_le_maxLen _ _ _ _ (by unfold maxLen; omega), (fun h => by cases h), ?_⟩
    rintro ad had j u hu
    cases had
    have hj : j < s.size := by
      have := (List.getElem?_eq_some_iff.1 hu).1
      rw [bv_length, hl] at this; exact this
    rw [Addr.add_lit, Nat.zero_add, Lib.bytesWorld_cell w _ s j hj]
    rw [bv_get _ j (by rw [hl]; exact hj)] at hu
    cases hu
    have hj2 : j < s.data.toList.length := by rw [Array.length_toList]; exact hj
    simp only [sB, List.getD_eq_getElem?_getD, List.getElem?_eq_getElem hj2, Option.getD_some]
  · exact ⟨rfl, rfl, rfl, by rw [Lib.bytesWorld_size]; omega, fun j hj => Lib.bytesWorld_at_old w _ s j hj⟩
set_option maxHeartbeats 1000000 in
theorem zig_any (n : Int) (h1 : -9223372036854775808 ≤ n) (h2 : n ≤ 9223372036854775807) (w : World) : Calls Tryz.prog 107 #[.int .i64 n] w fun e w' => e = .returned (.int .u64 (zigN n : Nat)) ∧ w = w' := by
  by_cases h0 : 0 ≤ n
  · obtain ⟨k, rfl⟩ := Int.eq_ofNat_of_zero_le h0
    have hz : zigN (k : Int) = 2 * k := by unfold zigN; rw [if_pos h0]; simp
    have e1 : (k : Int) / 9223372036854775808 = 0 := by omega
    have HZ := Lib.hid hz
    clear hz h0
    go_enter Tryz.func107, Tryz.ntmps107
    go_wp2
    go_ret
    refine ⟨ret_int ?_, rfl⟩
    have h := u64_xor_nat (k * 2) 0 (by omega) (by decide)
    rw [Nat.xor_zero] at h
    push_cast at h
    rw [HZ.out, h]; omega
  · obtain ⟨k, rfl⟩ : ∃ k : Nat, n = -((k : Int) + 1) := ⟨(-n - 1).toNat, by omega⟩
    have hz : zigN (-((k : Int) + 1)) = 2 * k + 1 := by unfold zigN; rw [if_neg (by omega)]; omega
    have e1 : -((k : Int) + 1) / 9223372036854775808 = -1 := by omega
    have e2 : -((k : Int) + 1) % 18446744073709551616 = ((18446744073709551615 - k : Nat) : Int) := by omega
    have HZ := Lib.hid hz
    have hk : k < 9223372036854775808 := by omega
    clear hz h0
    go_enter Tryz.func107, Tryz.ntmps107
    go_wp2
    go_ret
    refine ⟨ret_int ?_, rfl⟩
    have a1 : IntKind.u64.wrap (IntKind.u64.wrap (-((k : Int) + 1)) * 2) = ((18446744073709551614 - 2 * k : Nat) : Int) := by
      rw [IntKind.wrap_u64, IntKind.wrap_u64, e2]; omega
    have a2 : IntKind.u64.wrap (-1 : Int) = ((18446744073709551615 : Nat) : Int) := by rw [IntKind.wrap_u64]; omega
    rw [a1, a2, u64_xor_nat _ _ (by omega) (by decide), xor_ones _ (by omega), HZ.out]
    omega
set_option maxHeartbeats 1000000 in
theorem rzig_any (n : Int) (h1 : -9223372036854775808 ≤ n) (h2 : n ≤ 9223372036854775807) (w : World) : Calls Tryz.prog 66 #[.int .i64 n] w fun e w' => e = .returned (.int .u64 (zigN n : Nat)) ∧ w = w' := by
  by_cases h0 : 0 ≤ n
  · have hz : (zigN n : Int) = 2 * n := by unfold zigN; rw [if_pos h0]; omega
    have HZ := Lib.hid hz
    clear hz
    go_enter Tryz.func66, Tryz.ntmps66
    go_wp2
    go_ret
    exact ⟨ret_int (by rw [HZ.out]), rfl⟩
  · have hz : (zigN n : Int) = 2 * (-(n + 1)) + 1 := by unfold zigN; rw [if_neg h0]; omega
    have HZ := Lib.hid hz
    clear hz
    go_enter Tryz.func66, Tryz.ntmps66
    go_wp2
    go_ret
    exact ⟨ret_int (by rw [HZ.out]), rfl⟩
end Go.Proofs.YtbjoohafgkodcaaGreat
namespace Go.Proofs.YtbjoohafgkodcaaGreat
open Go Go.RowKit Go.Shelf
attribute [local go_sem] Oper.semAt_some

theorem putF_bad {x : Fld} (h : (putF x).2 ≠ 0) : (putF x).1 = [] := by
  unfold putF at h ⊢
  by_cases h1 : (tmake (fNum x) (fWire x)).2 ≠ 0
  · rw [if_pos h1]
  rw [if_neg h1] at h ⊢
  by_cases h2 : fWire x = 2 ∧ 8192 < (fB x).length
  · rw [if_pos h2]
  · rw [if_neg h2] at h; exact absurd rfl h
theorem putsF_one (x : Fld) : (putsF 0 [x]).1 = (putF x).1 ∧ (putsF 0 [x]).2.1 = (putF x).2 := by
  rw [putsF_cons]
  by_cases h : (putF x).2 ≠ 0
  · rw [if_pos h]; exact ⟨(putF_bad h).symm, rfl⟩
  · rw [if_neg h, if_neg (by simp [putsF])]
    exact ⟨by simp [putsF], by simp only; omega⟩
set_option maxRecDepth 100000 in
set_option maxHeartbeats 4000000 in
theorem eput_any (x : Fld) (v : Value) (w : World) (hx : x.ok) (hb : Bs w v (fB x)) (hl : (fB x).length ≤ 100000000) :
    Calls Tryz.prog 109 #[fldA x v] w fun e w' => ∃ v', e = .returned v' ∧ OwnB w' w.heap.size v' (putF x).1 ∧ Grew w w' := by
  obtain ⟨a, n, c, rfl, hn⟩ := bs_shape hb
  have g2 : Grew w ((w.alloc (.cells #[.int .i64 x.1, .int .u8 (x.2.1 : Nat), .int .u64 (x.2.2.1 : Nat), .slice a n c, .int .i64 x.2.2.2.2] 101)).alloc (.cells #[.int .i64 x.1, .int .u8 (x.2.1 : Nat), .int .u64 (x.2.2.1 : Nat), .slice a n c, .int .i64 x.2.2.2.2] 101)) := ((Below.refl _ _).alloc (Nat.le_refl _) _).alloc (by simp) _
  have hfl : FlR ((w.alloc (.cells #[.int .i64 x.1, .int .u8 (x.2.1 : Nat), .int .u64 (x.2.2.1 : Nat), .slice a n c, .int .i64 x.2.2.2.2] 101)).alloc (.cells #[.int .i64 x.1, .int .u8 (x.2.1 : Nat), .int .u64 (x.2.2.1 : Nat), .slice a n c, .int .i64 x.2.2.2.2] 101)) (.slice (some ⟨w.heap.size + 1, 0, none⟩) 1 1) [((x, .slice a n c) : FFV)] :=
    ⟨by
      have h := Sl.lit (w.alloc (.cells #[.int .i64 x.1, .int .u8 (x.2.1 : Nat), .int .u64 (x.2.2.1 : Nat), .slice a n c, .int .i64 x.2.2.2.2] 101)) 101 (0, 0) #[.int .i64 x.1, .int .u8 (x.2.1 : Nat), .int .u64 (x.2.2.1 : Nat), .slice a n c, .int .i64 x.2.2.2.2] 1 5 rfl (by unfold maxLen; omega)
      simp only [World.size_alloc] at h
      exact h, fun p hp => by
      obtain rfl := List.mem_singleton.1 hp
      exact hb.grew g2⟩
  have kp := skPut_any [((x, .slice a n c) : FFV)] _ _ hfl (fun p hp => by obtain rfl := List.mem_singleton.1 hp; exact ⟨hx, hl⟩) (by simp)
  simp only [List.map_cons, List.map_nil] at kp
  obtain ⟨P, hP⟩ : ∃ P, P = putsF 0 [x] := ⟨_, rfl⟩
  have hP1 : P.1 = (putF x).1 := by rw [hP]; exact (putsF_one x).1
  have hPe : P.2.1 ≠ 0 → P.1 = [] := by rw [hP]; exact putsF_err _ _
  rw [← hP] at kp
  rw [← hP1]
  have KP := Lib.hid kp
  have HPE := Lib.hid hPe
  clear kp hfl hP hP1 hPe hb
  go_enter Tryz.func109, Tryz.ntmps109
  go_wp2_with fail
  refine KP.out.mono ?_
  rintro e w1 ⟨v1, rfl, ho1, g1⟩
  obtain ⟨a1, n1, c1, rfl, hn1⟩ := bs_shape (Sl.of_own ho1)
  have g3 := grew_alloc w1 (.cells #[.int .i64 (P.2.1 : Nat), .int .i64 (P.2.2 : Nat)] 32)
  have HO := Lib.hid (own_mono (base' := w.heap.size) (own_grew ho1 g3) g2.size)
  clear ho1
  by_cases he : P.2.1 ≠ 0
  · have hne : ((P.2.1 : Int) != 0) = true := by simp; omega
    have HP0 := Lib.hid (HPE.out he)
    clear he
    go_wp2
    go_ret
    rw [HP0.out]
    exact ⟨_, rfl, ownB_nil _ _, (g2.trans g1).trans g3⟩
  · have hne : ((P.2.1 : Int) != 0) = false := by simp; omega
    clear he
    go_wp2
    go_ret
    exact ⟨_, rfl, HO.out, (g2.trans g1).trans g3⟩
end Go.Proofs.YtbjoohafgkodcaaGreat
