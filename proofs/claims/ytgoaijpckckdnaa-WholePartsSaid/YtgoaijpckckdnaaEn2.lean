/- varint.Zig, rescriptref01.Zig: contracts; the bytes of a string. -/
import Derived.Test.YtgoaijpckckdnaaPay
import Derived.Laws.BitsAllLaws
import Derived.Lib.ConvBytes
import Derived.Laws.AppendOwn
namespace Go.Proofs.Ytgoaijpckckdnaa
open Go Go.RowKit Go.Shelf
attribute [local go_sem] Oper.semAt_some

/-- a number with a sign, as one without -/
def zigN (n : Int) : Nat := if 0 ≤ n then 2 * n.toNat else 2 * (-(n + 1)).toNat + 1
theorem zigN_lt {n : Int} (h1 : -9223372036854775808 ≤ n) (h2 : n ≤ 9223372036854775807) : zigN n < 18446744073709551616 := by unfold zigN; split <;> omega
theorem xor_ones (x : Nat) (h : x < 18446744073709551616) : x ^^^ 18446744073709551615 = 18446744073709551615 - x := by
  have h1 : (BitVec.ofNat 64 x ^^^ BitVec.allOnes 64).toNat = (~~~ BitVec.ofNat 64 x).toNat := by rw [BitVec.xor_allOnes]
  rw [BitVec.toNat_xor, BitVec.toNat_not, BitVec.toNat_ofNat, BitVec.toNat_allOnes, Nat.mod_eq_of_lt h] at h1
  exact h1
/-! ## a string's bytes -/
/-- the bytes of a string -/
def sB (s : ByteArray) : List UInt8 := s.data.toList
theorem conv_str (s : ByteArray) (w : World) (hs : s.size ≤ 1000000000) : ∃ c, (convert 9 22 (.string s)).run Try.prog w = .ok (.slice (some ⟨w.heap.size, 0, none⟩) s.size c) (Lib.bytesWorld w 5 s) ∧
    Bs (Lib.bytesWorld w 5 s) (.slice (some ⟨w.heap.size, 0, none⟩) s.size c) (sB s) ∧ Grew w (Lib.bytesWorld w 5 s) := by
  refine ⟨_, Lib.run_convert_string_bytes w _ _ _ s Try.underlying9 Try.underlying22 Try.underlying5, ?_, ?_⟩
  · have hl : (sB s).length = s.size := by show s.data.toList.length = s.data.size; rw [Array.length_toList]
    refine ⟨by simp, _, _, by rw [hl], by rw [hl]; exact grownCap_ge _ _ _ _, grownCap_le_maxLen _ _ _ _ (by unfold maxLen; omega), (fun h => by cases h), ?_⟩
    rintro ad had j u hu
    cases had
    have hj : j < s.size := by
      have := (List.getElem?_eq_some_iff.1 hu).1
      rw [bv_length, hl] at this; exact this
    rw [Addr.add_lit, Nat.zero_add, Lib.bytesWorld_cell w _ s j hj]
    rw [bv_get _ j (by rw [hl]; exact hj)] at hu
    cases hu
    have hj2 : j < s.data.toList.length := by rw [Array.length_toList]; exact hj
    simp only [sB, List.getD_eq_getElem?_getD, List.getElem?_eq_getElem hj2, Option.getD_some]
  · exact ⟨rfl, rfl, rfl, by rw [Lib.bytesWorld_size]; omega, fun j hj => Lib.bytesWorld_at_old w _ s j hj⟩
set_option maxHeartbeats 1000000 in
theorem zig_any (n : Int) (h1 : -9223372036854775808 ≤ n) (h2 : n ≤ 9223372036854775807) (w : World) : Calls Try.prog 80 #[.int .i64 n] w fun e w' => e = .returned (.int .u64 (zigN n : Nat)) ∧ w = w' := by
  by_cases h0 : 0 ≤ n
  · obtain ⟨k, rfl⟩ := Int.eq_ofNat_of_zero_le h0
    have hz : zigN (k : Int) = 2 * k := by unfold zigN; rw [if_pos h0]; simp
    have e1 : (k : Int) / 9223372036854775808 = 0 := by omega
    have HZ := Lib.hid hz
    clear hz h0
    go_enter Try.func80, Try.ntmps80
    go_wp2
    go_ret
    refine ⟨ret_int ?_, rfl⟩
    have h := u64_xor_nat (k * 2) 0 (by omega) (by decide)
    rw [Nat.xor_zero] at h
    push_cast at h
    rw [HZ.out, h]; omega
  · obtain ⟨k, rfl⟩ : ∃ k : Nat, n = -((k : Int) + 1) := ⟨(-n - 1).toNat, by omega⟩
    have hz : zigN (-((k : Int) + 1)) = 2 * k + 1 := by unfold zigN; rw [if_neg (by omega)]; omega
    have e1 : -((k : Int) + 1) / 9223372036854775808 = -1 := by omega
    have e2 : -((k : Int) + 1) % 18446744073709551616 = ((18446744073709551615 - k : Nat) : Int) := by omega
    have HZ := Lib.hid hz
    have hk : k < 9223372036854775808 := by omega
    clear hz h0
    go_enter Try.func80, Try.ntmps80
    go_wp2
    go_ret
    refine ⟨ret_int ?_, rfl⟩
    have a1 : IntKind.u64.wrap (IntKind.u64.wrap (-((k : Int) + 1)) * 2) = ((18446744073709551614 - 2 * k : Nat) : Int) := by
      rw [IntKind.wrap_u64, IntKind.wrap_u64, e2]; omega
    have a2 : IntKind.u64.wrap (-1 : Int) = ((18446744073709551615 : Nat) : Int) := by rw [IntKind.wrap_u64]; omega
    rw [a1, a2, u64_xor_nat _ _ (by omega) (by decide), xor_ones _ (by omega), HZ.out]
    omega
set_option maxHeartbeats 1000000 in
theorem rzig_any (n : Int) (h1 : -9223372036854775808 ≤ n) (h2 : n ≤ 9223372036854775807) (w : World) : Calls Try.prog 86 #[.int .i64 n] w fun e w' => e = .returned (.int .u64 (zigN n : Nat)) ∧ w = w' := by
  by_cases h0 : 0 ≤ n
  · have hz : (zigN n : Int) = 2 * n := by unfold zigN; rw [if_pos h0]; omega
    have HZ := Lib.hid hz
    clear hz
    go_enter Try.func86, Try.ntmps86
    go_wp2
    go_ret
    exact ⟨ret_int (by rw [HZ.out]), rfl⟩
  · have hz : (zigN n : Int) = 2 * (-(n + 1)) + 1 := by unfold zigN; rw [if_neg h0]; omega
    have HZ := Lib.hid hz
    clear hz
    go_enter Try.func86, Try.ntmps86
    go_wp2
    go_ret
    exact ⟨ret_int (by rw [HZ.out]), rfl⟩
end Go.Proofs.Ytgoaijpckckdnaa
