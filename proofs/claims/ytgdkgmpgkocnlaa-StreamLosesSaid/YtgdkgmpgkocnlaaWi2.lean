/- The law WholeLost returns true: its plain law; the walk's parts. -/
import Derived.Test.YtgdkgmpgkocnlaaWi1
namespace Go.Proofs.Ytgdkgmpgkocnlaa
open Go Go.RowKit Go.Shelf

theorem lost_do (fs : List Frm) (k i m : Nat) (hk : k < fs.length) (him : i + m ≤ (fput fs[k]).length) (hlen : (fjoin fs).length ≤ 1048576) (t : Int) (b : List UInt8) :
    doM (fjoin fs) [⟨2, (((fjoin (fs.take k)).length + i : Nat) : Int), (m : Nat), t, b⟩] = fjoin (fs.take k) ++ ((fput fs[k]).take i ++ (fput fs[k]).drop (i + m)) ++ fjoin (fs.drop (k + 1)) := by
  have e := fjoin_cut fs k hk
  generalize hA : fjoin (fs.take k) = A at *
  generalize hB : fjoin (fs.drop (k + 1)) = B at *
  generalize hF : fput fs[k] = F at *
  have hl : (fjoin fs).length = A.length + (F.length + B.length) := by rw [e]; simp
  have e1 : eAt (fjoin fs) ⟨2, ((A.length + i : Nat) : Int), (m : Nat), t, b⟩ = A.length + i := restN_small (by omega)
  have e2 : eN (fjoin fs) ⟨2, ((A.length + i : Nat) : Int), (m : Nat), t, b⟩ = m := by unfold eN; rw [e1]; exact restN_small (by omega)
  have h1 : oneM (fjoin fs) ⟨2, ((A.length + i : Nat) : Int), (m : Nat), t, b⟩ = A ++ (F.take i ++ F.drop (i + m)) ++ B := by
    unfold oneM eLeft
    rw [e1, e2]
    simp only [show ¬ ((2 : Int) = 1) by decide, if_false, if_true]
    have d1 : (fjoin fs).take (A.length + i) = A ++ F.take i := by
      rw [e, List.take_append, List.take_of_length_le (by omega), Nat.add_sub_cancel_left, List.take_append_of_le_length (by omega)]
    have d2 : (fjoin fs).drop (A.length + i + m) = F.drop (i + m) ++ B := by
      rw [e, Nat.add_assoc, List.drop_append, List.drop_of_length_le (by omega), List.nil_append, Nat.add_sub_cancel_left, List.drop_append_of_le_length (by omega)]
    rw [d1, d2]
    simp only [List.append_assoc]
  simp only [doM, List.foldl_cons, List.foldl_nil]
  rw [h1]
  refine List.take_of_length_le ?_
  simp only [List.length_append, List.length_take, List.length_drop]
  omega
theorem FsR.take {W : World} {a : Option Addr} {c : Nat} {A : List FA} (h : FsR W (.slice a A.length c) A) {m : Nat} (hm : m ≤ A.length) : FsR W (.slice a m c) (A.take m) := by
  refine ⟨?_, fun x hx => h.2 x (List.mem_of_mem_take hx)⟩
  have := Sl.take h.1 m hm
  have hl : (A.take m).length = m := by rw [List.length_take]; omega
  rw [hl]
  have hfl : ∀ q : List FA, (q.flatMap fav).length = q.length * 2 := by
    intro q; induction q with
    | nil => rfl
    | cons x q ih => rw [List.flatMap_cons, List.length_append, ih, List.length_cons]; simp [fav]; omega
  have e : (A.flatMap fav).take (m * 2) = (A.take m).flatMap fav := by
    have h1 : A.flatMap fav = (A.take m).flatMap fav ++ (A.drop m).flatMap fav := by rw [← List.flatMap_append, List.take_append_drop]
    rw [h1]
    exact List.take_left' (by rw [hfl, hl])
  rw [e] at this; exact this
theorem FsR.drop {W : World} {a : Option Addr} {c : Nat} {A : List FA} (h : FsR W (.slice a A.length c) A) {m : Nat} (hm : m ≤ A.length) (v : Value)
    (hv : (c = m ∧ v = .slice a (A.length - m) (c - m)) ∨ v = .slice (a.map fun x => x.add (m * 2)) (A.length - m) (c - m)) : FsR W v (A.drop m) := by
  refine ⟨?_, fun x hx => h.2 x (List.mem_of_mem_drop hx)⟩
  have hl : (A.drop m).length = A.length - m := List.length_drop
  have hfl : ∀ q : List FA, (q.flatMap fav).length = q.length * 2 := by
    intro q; induction q with
    | nil => rfl
    | cons x q ih => rw [List.flatMap_cons, List.length_append, ih, List.length_cons]; simp [fav]; omega
  have e : (A.flatMap fav).drop (m * 2) = (A.drop m).flatMap fav := by
    have h1 : A.flatMap fav = (A.take m).flatMap fav ++ (A.drop m).flatMap fav := by rw [← List.flatMap_append, List.take_append_drop]
    rw [h1]
    exact List.drop_left' (by rw [hfl, List.length_take]; omega)
  rw [hl]
  obtain ⟨q0, a', c', e', q1, q2, q3, q4⟩ := id h.1
  simp only [Value.slice.injEq] at e'
  obtain ⟨rfl, -, rfl⟩ := e'
  refine ⟨by rw [hfl, hl], ?_⟩
  by_cases hz : A.length - m = 0
  · have hnil : A.drop m = [] := List.eq_nil_of_length_eq_zero (by rw [hl]; exact hz)
    rw [hnil, hz]
    rcases hv with ⟨rfl, rfl⟩ | rfl
    · exact ⟨a, c - c, by rw [hz], by omega, by omega, fun _ => Nat.sub_self c, fun ad ea j u hu => by simp at hu⟩
    · refine ⟨_, c - m, by rw [hz], by omega, by omega, fun ea => ?_, fun ad ea j u hu => by simp at hu⟩
      have := q3 (by cases a with | none => rfl | some a => cases ea)
      omega
  · rcases hv with ⟨hcm, -⟩ | rfl
    · omega
    · obtain ⟨a'', c'', e'', -, -, -, hop⟩ := h.1.open
      simp only [Value.slice.injEq] at e''
      obtain ⟨rfl, -, rfl⟩ := e''
      obtain ⟨b, o, rfl, hc⟩ := hop (by omega)
      refine ⟨_, c - m, rfl, by omega, by omega, (fun ea => by cases ea), ?_⟩
      intro ad ea j u hu
      rw [Option.map_some, Addr.add_lit] at ea
      cases ea
      rw [← e, List.getElem?_drop] at hu
      rw [Addr.add_lit, Nat.add_assoc]
      exact hc _ _ hu
/-- a slice of frames put behind a row of the call's own -/
theorem wpList_catFr {W : World} {ops : Array Oper} {rest : List Oper} {o : Oper} {a : Act} {Q : Exit → Act → World → Prop} (hgd : o.guard = none) (s x : Operand)
    (ho : o.op = .call { callee := .builtin .append, args := #[s, x], argTypes := #[22, 22] })
    (base : Nat) (v : Value) (A B : List FA) (hs : a.eval s = v) (hown : W.ownsRow base 29 2 v A.length (A.flatMap fav)) (xv : Value) (hx : a.eval x = xv) (hB : FsR W xv B)
    (hlen : A.length + B.length ≤ 1000000000) (hbase : base ≤ W.heap.size)
    (h : ∀ v' w', w'.ownsRow base 29 2 v' (A ++ B).length ((A ++ B).flatMap fav) → Below base W w' → wpList Try.prog ops Q rest (a.put o.dst v') w') : wpList Try.prog ops Q (o :: rest) a W := by
  obtain ⟨i0, hi, hz0, hz1, hz2⟩ := info_parts info_frm
  refine wpList_app hgd s x 22 ho base 29 i0 (.agg #[.int .u8 0, .slice none 0 0]) 2 32 Try.underlying22 hi hz0 hz1 hz2 rfl (by decide) v A.length _ hs hown xv B.length (B.flatMap fav) hx hB.1 (fun u hu => ?_) (by unfold maxLen; omega) (by omega) hbase
    fun v' w' h1 h2 => h v' w' (by rw [List.length_append, List.flatMap_append]; exact h1) (grownBy_below h2 hown hbase)
  obtain ⟨y, hy, hu2⟩ := List.mem_flatMap.1 hu
  exact fav_one y (hB.2 y hy) u hu2
end Go.Proofs.Ytgdkgmpgkocnlaa
