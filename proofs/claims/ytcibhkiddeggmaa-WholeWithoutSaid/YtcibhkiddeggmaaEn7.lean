/- WholeParts: the walk. ; encode.Size; is the encoder awake: contracts. -/
import Derived.Test.YtcibhkiddeggmaaEn5
import Derived.Test.YtcibhkiddeggmaaItw
namespace Go.Proofs.Ytcibhkiddeggmaa
open Go Go.RowKit Go.Shelf
attribute [local go_sem] Oper.semAt_some

set_option maxRecDepth 100000 in
set_option maxHeartbeats 4000000 in
theorem esize_any (m : Msg) (a : Option Addr) (c : Nat) (ver : Int) (w : World) (hm : okE m) (hl : Tx w (.slice a m.l.length c) m.l) :
    Calls Try.prog 19 #[.agg (msgA m (.slice a m.l.length c)), .int .i64 ver] w fun e w' => e = .returned (.int .i64 ((msgB m (ofKind m.k (rowsIn ver))).length : Nat)) ∧ Grew w w' := by
  have g0 := grew_alloc w (.cells (msgA m (.slice a m.l.length c)) 44)
  have KB := Lib.hid (ebytes_any m a c ver _ hm (hl.grew g0))
  have G0 := Lib.hid g0
  simp only [msgA] at KB G0 ⊢
  clear g0 hl hm
  go_enter Try.func19, Try.ntmps19
  go_wp2_with fail
  refine KB.out.mono ?_
  obtain ⟨B, hB⟩ : ∃ B, B = msgB m (ofKind m.k (rowsIn ver)) := ⟨_, rfl⟩
  have HB := Lib.hid hB
  rw [← hB]
  clear hB
  generalize chkM m (ofKind m.k (rowsIn ver)) = E
  simp only [fltV]
  rintro e w1 ⟨v1, rfl, ho, g1⟩
  obtain ⟨a1, c1, rfl⟩ := bs_len (Sl.of_own ho)
  have g2 := grew_alloc w1 (.cells #[.int .i64 (E.1 : Nat), .int .i64 (E.2 : Nat)] 47)
  clear ho
  go_wp2
  go_ret
  exact ⟨ret_int (by rw [HB.out]), (G0.out.trans g1).trans g2⟩
/-- the message that an encoder which is awake writes in four bytes -/
def mA : Msg := ⟨1, fun i => if i = 0 then 1 else if i = 1 then 3 else 0, fun _ => ⟨#[]⟩, []⟩
theorem mA_ok : okE mA := ⟨fun i _ => Nat.zero_le _, (fun s (h : s ∈ ([] : List ByteArray)) => absurd h List.not_mem_nil), Nat.zero_le _, fun i _ => by show (if i = 0 then 1 else if i = 1 then 3 else 0) < 18446744073709551616; split <;> (try split) <;> omega⟩
theorem mA_args : msgA mA (.slice none 0 0) = #[.int .u8 1, .int .u64 1, .int .u64 3, .int .u64 0, .int .u64 0, .int .u64 0, .int .u64 0, .string ⟨#[]⟩, .string ⟨#[]⟩, .slice none 0 0] := rfl
theorem mA_chk : chkM mA (ofKind 1 (rowsIn 1)) = (0, 0) := by decide
theorem mA_len : (msgB mA (ofKind 1 (rowsIn 1))).length = 4 := by decide +kernel
set_option maxRecDepth 100000 in
set_option maxHeartbeats 4000000 in
theorem awakeBytes_any (w : World) : Calls Try.prog 16 #[] w fun e w' => e = .returned (.bool true) ∧ Grew w w' := by
  have KB := Lib.hid (fun W => ebytes_any mA none 0 1 W mA_ok (Sl.nil W 1))
  have KC := Lib.hid (fun W => vcheck_any mA (.slice none 0 0) 1 W (okE_okM mA_ok) (Sl.nil W 1) (Nat.zero_le _))
  rw [show Value.slice none mA.l.length 0 = .slice none 0 0 from rfl] at KB
  rw [mA_args, show mA.k = 1 from rfl, mA_chk] at KB KC
  have hlen := mA_len
  generalize msgB mA (ofKind 1 (rowsIn 1)) = B at KB hlen
  obtain ⟨w0, hw0⟩ : ∃ w0, w0 = w.alloc (.cells #[.int .u8 1, .int .u64 1, .int .u64 3, .int .u64 0, .int .u64 0, .int .u64 0, .int .u64 0, .string ⟨#[]⟩, .string ⟨#[]⟩, .slice none 0 0] 44) := ⟨_, rfl⟩
  have g0 : Grew w w0 := by rw [hw0]; exact grew_alloc _ _
  have k0 : Blk w0 w.heap.size 44 (msgA mA (.slice none 0 0)) := by rw [hw0]; exact Blk.new _ _ _
  have K0 := Lib.hid k0
  have G0 := Lib.hid g0
  clear g0 k0
  have hl := Lib.hid hlen
  clear hlen
  go_enter Try.func16, Try.ntmps16
  go_wp2_with fail
  rw [← hw0]
  refine (KB.out _).mono ?_
  clear hw0
  simp only [fltV]
  rintro e w1 ⟨v1, rfl, ho, g1⟩
  obtain ⟨a1, c1, rfl⟩ := bs_len (Sl.of_own ho)
  rw [hl.out]
  have g2 := grew_alloc w1 (.cells #[.int .i64 0, .int .i64 0] 47)
  obtain ⟨x0, x1, x2, x3, x4, x5, x6, x7, x8, x9⟩ := mcells ((K0.out.grew g1).grew g2)
  have HG := Lib.hid ((G0.out.trans g1).trans g2)
  clear ho g1 g2
  go_wp2_with fail
  refine (KC.out _).mono ?_
  simp only [fltV]
  rintro e w2 ⟨rfl, g⟩
  go_wp2
  go_ret
  exact ⟨rfl, HG.out.trans g⟩
end Go.Proofs.Ytcibhkiddeggmaa
namespace Go.Proofs.Ytcibhkiddeggmaa
open Go Go.RowKit Go.Shelf
attribute [local go_sem] Oper.semAt_some

theorem small_ok {m : Msg} (h : smallB m = true) (hn : ∀ i, i < 6 → m.n i < 18446744073709551616) : okE m := by
  unfold smallB at h
  simp at h
  obtain ⟨⟨⟨h0, h1⟩, h2⟩, h3⟩ := h
  refine ⟨fun i hi => ?_, fun s hs => by have := h3 s hs; omega, by omega, hn⟩
  rcases (show i = 0 ∨ i = 1 by omega) with rfl | rfl <;> omega
/-- one step of a region whose order is drawn, from the step of a list -/
def stepQ (K : Act → World → Prop) : Exit → Act → World → Prop
  | .normal, a, w => K a w
  | _, _, _ => False
theorem wp_monoQ {P : Program} {o : Oper} {a : Act} {w : World} {K : Act → World → Prop} {Q Q' : Exit → Act → World → Prop} (hQ : ∀ c a w, Q (.panic c) a w → Q' (.panic c) a w) (hl : LetsOut Q → LetsOut Q') (hh : o.wp P a w K Q) : o.wp P a w K Q' := by
  unfold Oper.wp at *
  generalize (execOp a.eval o).run P w = r at *
  cases r with
  | ok n w' =>
    cases n <;> simp only [Oper.upon] at hh ⊢ <;>
      first
        | exact hh
        | exact Calls.mono hh (fun e w'' he => by cases e <;> first | exact he | exact hQ _ _ _ he | exact hl he)
  | halt x w' => cases x <;> simp only [Oper.upon] at hh ⊢ <;> first | exact hh | exact hQ _ _ _ hh
theorem step_of_list {P : Program} {ops : Array Oper} {Q : Exit → Act → World → Prop} {K : Act → World → Prop} {o : Oper} {a : Act} {w : World} (h : wpList P ops (stepQ K) [o] a w) :
    if Region.wanted o (yielded ops a.tmps) = true then Oper.wp P o a w K Q else K (a.put o.dst undef) w := by
  unfold wpList at h
  split at h
  · rename_i hw
    rw [if_pos hw]
    rcases h with h | ⟨-, _, _, h⟩
    · exact wp_monoQ (fun _ _ _ h => h.elim) (fun ⟨_, _, h⟩ => h.elim) h
    · exact h.elim
  · rename_i hw
    rw [if_neg hw]
    exact h
end Go.Proofs.Ytcibhkiddeggmaa
