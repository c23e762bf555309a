/- WholeParts: the walk. ; encode.Size; is the encoder awake: contracts. -/
import Derived.Test.YtbjoohafgkodcaaGreatEn5
import Derived.Test.YtbjoohafgkodcaaGreatItw
namespace Go.Proofs.YtbjoohafgkodcaaGreat
open Go Go.RowKit Go.Shelf
attribute [local go_sem] Oper.semAt_some

/-- the message that an encoder which is awake writes in four bytes -/
def mA : Msg := ⟨1, fun i => if i = 0 then 1 else if i = 1 then 3 else 0, fun _ => ⟨#[]⟩, []⟩
theorem mA_ok : okE mA := ⟨fun i _ => Nat.zero_le _, (fun s (h : s ∈ ([] : List ByteArray)) => absurd h List.not_mem_nil), Nat.zero_le _, fun i _ => by show (if i = 0 then 1 else if i = 1 then 3 else 0) < 18446744073709551616; split <;> (try split) <;> omega⟩
theorem mA_args : msgA mA (.slice none 0 0) = #[.int .u8 1, .int .u64 1, .int .u64 3, .int .u64 0, .int .u64 0, .int .u64 0, .int .u64 0, .string ⟨#[]⟩, .string ⟨#[]⟩, .slice none 0 0] := rfl
theorem mA_chk : chkM mA (ofKind 1 (rowsIn 1)) = (0, 0) := by decide
theorem mA_len : (msgB mA (ofKind 1 (rowsIn 1))).length = 4 := by decide +kernel
end Go.Proofs.YtbjoohafgkodcaaGreat
namespace Go.Proofs.YtbjoohafgkodcaaGreat
open Go Go.RowKit Go.Shelf
attribute [local go_sem] Oper.semAt_some

theorem small_ok {m : Msg} (h : smallB m = true) (hn : ∀ i, i < 6 → m.n i < 18446744073709551616) : okE m := by
  unfold smallB at h
  simp at h
  obtain ⟨⟨⟨h0, h1⟩, h2⟩, h3⟩ := h
  refine ⟨fun i hi => ?_, fun s hs => by have := h3 s hs; omega, by omega, hn⟩
  rcases (show i = 0 ∨ i = 1 by omega) with rfl | rfl <;> omega
/-- one step of a region whose order is drawn, from the step of a list -/
def stepQ (K : Act → World → Prop) : Exit → Act → World → Prop
  | .normal, a, w => K a w
  | _, _, _ => False
theorem wp_monoQ {P : Program} {o : Oper} {a : Act} {w : World} {K : Act → World → Prop} {Q Q' : Exit → Act → World → Prop} (hQ : ∀ c a w, Q (.panic c) a w → Q' (.panic c) a w) (hl : LetsOut Q → LetsOut Q') (hh : o.wp P a w K Q) : o.wp P a w K Q' := by
  unfold Oper.wp at *
  generalize (execOp a.eval o).run P w = r at *
  cases r with
  | ok n w' =>
    cases n <;> simp only [Oper.upon] at hh ⊢ <;>
      first
        | exact hh
        | exact Calls.mono hh (fun e w'' he => by cases e <;> first | exact he | exact hQ _ _ _ he | exact hl he)
  | halt x w' => cases x <;> simp only [Oper.upon] at hh ⊢ <;> first | exact hh | exact hQ _ _ _ hh
theorem step_of_list {P : Program} {ops : Array Oper} {Q : Exit → Act → World → Prop} {K : Act → World → Prop} {o : Oper} {a : Act} {w : World} (h : wpList P ops (stepQ K) [o] a w) :
    if Region.wanted o (yielded ops a.tmps) = true then Oper.wp P o a w K Q else K (a.put o.dst undef) w := by
  unfold wpList at h
  split at h
  · rename_i hw
    rw [if_pos hw]
    rcases h with h | ⟨-, _, _, h⟩
    · exact wp_monoQ (fun _ _ _ h => h.elim) (fun ⟨_, _, h⟩ => h.elim) h
    · exact h.elim
  · rename_i hw
    rw [if_neg hw]
    exact h
end Go.Proofs.YtbjoohafgkodcaaGreat
