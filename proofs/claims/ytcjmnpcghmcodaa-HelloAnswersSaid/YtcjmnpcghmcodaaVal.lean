/- rescriptlaw09.live: it holds. -/
import Derived.Test.YtcjmnpcghmcodaaVa9
import Derived.Test.YtcjmnpcghmcodaaGrw
namespace Go.Proofs.Ytcjmnpcghmcodaa
open Go Go.RowKit Go.Shelf

def mq : Msg := ⟨8, fun i => if i = 0 then 5 else 0, fun _ => ⟨#[]⟩, []⟩
def mc : Msg := ⟨7, fun _ => 0, fun i => if i = 0 then ⟨#[120]⟩ else ⟨#[]⟩, []⟩
def mff : Msg := ⟨0, fun i => if i = 0 then 18446744073709551615 else 0, fun _ => ⟨#[]⟩, []⟩
theorem mq_ok : okM mq := ⟨fun _ _ => Nat.zero_le _, fun _ h => by cases h⟩
theorem mc_ok : okM mc := by
  refine ⟨fun i _ => ?_, fun _ h => by cases h⟩
  unfold mc; simp only; split
  · show 1 ≤ _; omega
  · exact Nat.zero_le _
theorem lv_c1 : chkM mq (ofKind mq.k (rowsIn 1)) = (7, 0) := by decide +kernel
theorem lv_c2 : chkM mq (ofKind mq.k (rowsIn 2)) = (0, 0) := by decide +kernel
theorem lv_c3 : chkM mc (ofKind mc.k (rowsIn 1)) = (20, 0) := by decide +kernel
theorem lv_c4 : chkM mc (ofKind mc.k (rowsIn 2)) = (0, 0) := by decide +kernel
theorem lv_s1 : sameB mq mq = true := by decide +kernel
theorem lv_s2 : sameB mq mc = false := by decide +kernel
theorem lv_s3 : sameB mc mc = true := by decide +kernel
theorem lv_d1 : defB mq 2 1 = true := by decide +kernel
theorem lv_d2 : defB mq 2 0 = false := by decide +kernel
theorem lv_cl : (cleanM mc (ofKind mc.k (rowsIn 1))).s 0 = ⟨#[]⟩ := by decide +kernel
theorem lv_i : intV mff 0 = -1 := by decide +kernel
def qA : Array Value := #[.int .u8 8, .int .u64 5, .int .u64 0, .int .u64 0, .int .u64 0, .int .u64 0, .int .u64 0, .string ⟨#[]⟩, .string ⟨#[]⟩, .slice none 0 0]
def cA : Array Value := #[.int .u8 7, .int .u64 0, .int .u64 0, .int .u64 0, .int .u64 0, .int .u64 0, .int .u64 0, .string ⟨#[120]⟩, .string ⟨#[]⟩, .slice none 0 0]
theorem qA_eq : msgA mq (.slice none 0 0) = qA := rfl
theorem cA_eq : msgA mc (.slice none 0 0) = cA := rfl
theorem lv_k1 (W : World) : Calls Try.prog 12 #[.agg qA, .int .i64 1] W fun e w' => e = .returned (.agg #[.int .i64 7, .int .i64 0]) ∧ Grew W w' := by
  have := vcheck_any mq (.slice none 0 0) 1 W mq_ok (Sl.nil W 1) (by simp [mq])
  rw [lv_c1] at this; exact this
theorem lv_k2 (W : World) : Calls Try.prog 12 #[.agg qA, .int .i64 2] W fun e w' => e = .returned (.agg #[.int .i64 0, .int .i64 0]) ∧ Grew W w' := by
  have := vcheck_any mq (.slice none 0 0) 2 W mq_ok (Sl.nil W 1) (by simp [mq])
  rw [lv_c2] at this; exact this
theorem lv_k3 (W : World) : Calls Try.prog 12 #[.agg cA, .int .i64 1] W fun e w' => e = .returned (.agg #[.int .i64 20, .int .i64 0]) ∧ Grew W w' := by
  have := vcheck_any mc (.slice none 0 0) 1 W mc_ok (Sl.nil W 1) (by simp [mc])
  rw [lv_c3] at this; exact this
theorem lv_k4 (W : World) : Calls Try.prog 12 #[.agg cA, .int .i64 2] W fun e w' => e = .returned (.agg #[.int .i64 0, .int .i64 0]) ∧ Grew W w' := by
  have := vcheck_any mc (.slice none 0 0) 2 W mc_ok (Sl.nil W 1) (by simp [mc])
  rw [lv_c4] at this; exact this
theorem lv_k5 (W : World) : Calls Try.prog 19 #[.agg qA, .agg qA] W fun e w' => e = .returned (.bool true) ∧ Grew W w' := by
  have := vsame_any mq mq (.slice none 0 0) (.slice none 0 0) W (Sl.nil W 1) (Sl.nil W 1)
  rw [lv_s1] at this; exact this
theorem lv_k6 (W : World) : Calls Try.prog 19 #[.agg qA, .agg cA] W fun e w' => e = .returned (.bool false) ∧ Grew W w' := by
  have := vsame_any mq mc (.slice none 0 0) (.slice none 0 0) W (Sl.nil W 1) (Sl.nil W 1)
  rw [lv_s2] at this; exact this
theorem lv_k7 (W : World) : Calls Try.prog 18 #[.agg cA, .int .i64 1] W fun e w' => e = .returned (.agg #[.int .u8 7, .int .u64 0, .int .u64 0, .int .u64 0, .int .u64 0, .int .u64 0, .int .u64 0, .string ⟨#[]⟩, .string ⟨#[]⟩, .slice none 0 0]) ∧ Grew W w' := by
  refine (clean_any mc (.slice none 0 0) 1 W (Sl.nil W 1) (by simp [mc])).mono ?_
  rintro e w' ⟨v, rfl, -, g, hn⟩
  rw [hn rfl]
  refine ⟨?_, g⟩
  unfold msgA
  rw [lv_cl, show (cleanM mc (ofKind mc.k (rowsIn 1))).s 1 = ⟨#[]⟩ by decide +kernel, show (cleanM mc (ofKind mc.k (rowsIn 1))).n 0 = 0 by decide +kernel, show (cleanM mc (ofKind mc.k (rowsIn 1))).n 1 = 0 by decide +kernel, show (cleanM mc (ofKind mc.k (rowsIn 1))).n 2 = 0 by decide +kernel, show (cleanM mc (ofKind mc.k (rowsIn 1))).n 3 = 0 by decide +kernel, show (cleanM mc (ofKind mc.k (rowsIn 1))).n 4 = 0 by decide +kernel, show (cleanM mc (ofKind mc.k (rowsIn 1))).n 5 = 0 by decide +kernel]
  rfl
theorem lv_k8 (W : World) : Calls Try.prog 15 #[.agg qA, .agg #[.int .i64 0, .int .i64 2, .int .i64 1]] W fun e w' => e = .returned (.bool true) ∧ Grew W w' := by
  have := default_any mq none 0 0 2 1 W
  rw [lv_d1] at this; exact this
theorem lv_k9 (W : World) : Calls Try.prog 15 #[.agg qA, .agg #[.int .i64 0, .int .i64 2, .int .i64 0]] W fun e w' => e = .returned (.bool false) ∧ Grew W w' := by
  have := default_any mq none 0 0 2 0 W
  rw [lv_d2] at this; exact this
theorem lv_k10 (W : World) : Calls Try.prog 14 #[.agg #[.int .u8 0, .int .u64 18446744073709551615, .int .u64 0, .int .u64 0, .int .u64 0, .int .u64 0, .int .u64 0, .string ⟨#[]⟩, .string ⟨#[]⟩, .slice none 0 0], .int .i64 0] W fun e w' => e = .returned (.int .i64 (-1)) ∧ Grew W w' := by
  have := vint_any mff none 0 0 W
  rw [lv_i] at this; exact this
theorem lv_k11 (W : World) : Calls Try.prog 17 #[.agg cA] W fun e w' => e = .returned (.agg cA) ∧ Grew W w' := by
  refine (copy_any mc (.slice none 0 0) W (Sl.nil W 1) (by simp [mc])).mono ?_
  rintro e w' ⟨v, rfl, -, g, hn⟩
  rw [hn rfl]
  exact ⟨rfl, g⟩
theorem lv_k12 (W : World) : Calls Try.prog 19 #[.agg cA, .agg cA] W fun e w' => e = .returned (.bool true) ∧ Grew W w' := by
  have := vsame_any mc mc (.slice none 0 0) (.slice none 0 0) W (Sl.nil W 1) (Sl.nil W 1)
  rw [lv_s3] at this; exact this
theorem flt_cmp (e1 a1 e2 a2 : Int) (W : World) : (binOp .eql 32 (.agg #[.int .i64 e1, .int .i64 a1]) (.agg #[.int .i64 e2, .int .i64 a2])).run Try.prog W = .ok (.bool (e1 == e2 && a1 == a2)) W := by
  go_simp
  by_cases h1 : e1 = e2
  · subst h1; by_cases h2 : a1 = a2
    · subst h2; simp
    · simp [h2]
  · simp [h1]
set_option maxRecDepth 100000 in
set_option maxHeartbeats 16000000 in
theorem live09_any (w : World) : Calls Try.prog 10 #[] w fun e w' => e = .returned (.bool true) ∧ Grew w w' := by
  obtain ⟨W0, hW0⟩ : ∃ W0, W0 = (w.alloc (.cells qA 27)).alloc (.cells cA 27) := ⟨_, rfl⟩
  have hg0 : Grew w W0 := by rw [hW0]; exact grew2 _ _ _
  have k1 : Blk W0 w.heap.size 27 qA := by rw [hW0]; exact (Blk.new _ _ _).alloc _
  have k2 : Blk W0 (w.heap.size + 1) 27 cA := by rw [hW0]; exact Blk.new2 _ _ _ _
  have K1 := Lib.hid k1
  have K2 := Lib.hid k2
  have G0 := Lib.hid hg0
  have L1 := Lib.hid lv_k1
  have L2 := Lib.hid lv_k2
  have L3 := Lib.hid lv_k3
  have L4 := Lib.hid lv_k4
  have L5 := Lib.hid lv_k5
  have L6 := Lib.hid lv_k6
  have L7 := Lib.hid lv_k7
  have L8 := Lib.hid lv_k8
  have L9 := Lib.hid lv_k9
  have L11 := Lib.hid lv_k11
  have L12 := Lib.hid lv_k12
  simp only [qA, cA] at hW0 L1 L2 L3 L4 L5 L6 L7 L8 L9 L11 L12 K1 K2
  have hfld : ∀ W : World, (Instr.field 27 (.agg #[.int .u8 7, .int .u64 0, .int .u64 0, .int .u64 0, .int .u64 0, .int .u64 0, .int .u64 0, .string ⟨#[]⟩, .string ⟨#[]⟩, .slice none 0 0]) 2).run Try.prog W = .ok (.agg #[.string ⟨#[]⟩, .string ⟨#[]⟩]) W := fun W => by kernel_rfl
  have hidx : ∀ W : World, (Instr.index 24 (.agg #[.string ⟨#[]⟩, .string ⟨#[]⟩]) (.int .i64 0)).run Try.prog W = .ok (.string ⟨#[]⟩) W := fun W => by kernel_rfl
  have hstr : ((⟨#[]⟩ : ByteArray).toList == []) = true := by decide +kernel
  clear k1 k2 hg0
  go_enter Try.func10, Try.ntmps10
  go_wp2_with fail
  rw [← hW0]
  clear hW0
  refine wp_region_grew W0 (Below.refl _ _) (by kernel_rfl) (by kernel_rfl) ?_
  repeat (
    refine BigFrame.wpQuiet_want (by kernel_rfl) (fun K hK => ?_)
    first
      | (refine q_row 27 _ rfl w.heap.size rfl 27 _ _ K1.out Try.underlying27 rfl (by kernel_rfl) (hK _ ?_))
      | (refine q_row 27 _ rfl (w.heap.size + 1) rfl 27 _ _ K2.out Try.underlying27 rfl (by kernel_rfl) (hK _ ?_))
      | (apply Exists.intro
         apply And.intro
         · intro W hW
           go_simp
           first
             | done
             | rfl
             | with_reducible exact q_calls hW (L1.out W) (fun _ _ h => h)
             | with_reducible exact q_calls hW (L2.out W) (fun _ _ h => h)
             | with_reducible exact q_calls hW (L3.out W) (fun _ _ h => h)
             | with_reducible exact q_calls hW (L4.out W) (fun _ _ h => h)
             | with_reducible exact q_calls hW (L5.out W) (fun _ _ h => h)
             | with_reducible exact q_calls hW (L6.out W) (fun _ _ h => h)
             | with_reducible exact q_calls hW (L7.out W) (fun _ _ h => h)
             | with_reducible exact q_calls hW (L8.out W) (fun _ _ h => h)
             | with_reducible exact q_calls hW (L9.out W) (fun _ _ h => h)
             | with_reducible exact q_calls hW (lv_k10 W) (fun _ _ h => h)
             | with_reducible exact q_calls hW (L11.out W) (fun _ _ h => h)
             | with_reducible exact q_calls hW (L12.out W) (fun _ _ h => h)
         refine hK _ ?_)
    clear hK K
    simp only [Act.put, List.setIfInBounds_toArray, List.set_cons_zero, List.set_cons_succ])
  refine wpQuiet_nil ?_
  intro w3 g3
  have G3 := Lib.hid (G0.out.trans g3.out)
  clear g3
  go_wp2
  go_ret
  exact ⟨rfl, G3.out⟩
end Go.Proofs.Ytcjmnpcghmcodaa
