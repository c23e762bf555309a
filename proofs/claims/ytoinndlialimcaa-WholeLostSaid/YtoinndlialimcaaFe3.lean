/- Package feeder: drop. -/
import Derived.Test.YtoinndlialimcaaFe2
namespace Go.Proofs.Ytoinndlialimcaa
open Go Go.RowKit Go.Shelf

/-- copy(v, v[k:]) on a row of the call's own, as one step of a region that draws -/
theorem step_copyB {ops : Array Oper} {o : Oper} {a : Act} {W : World} {K : Act → World → Prop} {Q : Exit → Act → World → Prop} {E : Prop} (hgd : o.guard = none) (d s : Operand)
    (ho : o.op = .call { callee := .builtin .copy, args := #[d, s], argTypes := #[22, 22] })
    (base : Nat) (ad : Option Addr) (c : Nat) (l : List UInt8) (hd : a.eval d = .slice ad l.length c) (hown : OwnB W base (.slice ad l.length c) l) (k : Nat) (hk : k ≤ l.length) (sa : Option Addr) (sc : Nat) (hs : a.eval s = .slice sa (l.length - k) sc) (hsv : Bs W (.slice sa (l.length - k) sc) (l.drop k))
    (h : ∀ w', OwnB w' base (.slice ad (l.length - k) c) (l.drop k) → Fr (fun i => (Value.slice ad l.length c).ownBlock = some i) W w' → K (a.put o.dst (.int .i64 (l.length - k : Nat))) w') :
    if Region.wanted o (yielded ops a.tmps) = true then Oper.wp Try.prog o a W K Q else E := by
  have hw : Region.wanted o (yielded ops a.tmps) = true := by simp [Region.wanted, hgd]
  rw [if_pos hw]
  have hsz : (Try.prog.info? 5).map (·.size) = some 1 := by kernel_rfl
  have hdl : (l.drop k).length = l.length - k := List.length_drop
  by_cases h0 : l.length - k = 0
  · have hrun := run_copy_none (P := Try.prog) W 22 22 o.type 5 ad sa l.length c (l.length - k) sc Try.underlying22 hsz (by rw [h0]; exact Nat.zero_min _)
    unfold Oper.wp
    simp [execOp, ho, resolve, invoke, builtin, hd, hs, hrun, Result.andThen]
    have hnil : l.drop k = [] := List.eq_nil_of_length_eq_zero (by omega)
    have := h W (by
      rw [hnil, h0]
      refine ⟨rfl, ?_⟩
      rcases hown.2 with ⟨e, _⟩ | ⟨g, cap, cur, e, hb, hg, hn, hc, hs, ht⟩
      · simp only [Value.slice.injEq] at e
        obtain ⟨rfl, -, rfl⟩ := e
        exact .inl ⟨rfl, rfl⟩
      · simp only [Value.slice.injEq] at e
        obtain ⟨rfl, -, rfl⟩ := e
        exact .inr ⟨g, c, cur, rfl, hb, hg, Nat.zero_le _, hc, hs, by simp [bv]⟩) (Fr.refl _ _)
    rw [h0] at this
    exact this
  · rcases hown.2 with ⟨e, _⟩ | ⟨g, cap, cur, e, hb, hg, hn, hc, hcs, ht⟩
    · simp only [Value.slice.injEq] at e
      omega
    · simp only [Value.slice.injEq] at e
      obtain ⟨rfl, -, rfl⟩ := e
      obtain ⟨-, sa', sc', e, hq1, -, hz, hcell⟩ := hsv
      simp only [Value.slice.injEq] at e
      obtain ⟨rfl, -, rfl⟩ := e
      obtain ⟨sad, rfl⟩ : ∃ sad, sa = some sad := by
        cases sa with
        | some x => exact ⟨x, rfl⟩
        | none => have := hz rfl; omega
      have hcl := hcell sad rfl
      have hmin : (bv (l.drop k)).length = Nat.min (l.length - k) l.length := by
        rw [bv_length, hdl]; exact (Nat.min_eq_left (by omega)).symm
      have hct : cur.toList.length = cur.size := by simp
      have htl : l.length * 1 ≤ cur.size := by
        have := congrArg List.length ht
        rw [List.length_take, bv_length] at this
        omega
      have hrun := run_copy_row (P := Try.prog) W 22 22 o.type 5 g 0 l.length c sad (l.length - k) sc cur 5 (bv (l.drop k)) Try.underlying22 hsz hg hmin hcl (by rw [bv_length, hdl]; omega) (bv_one _)
      unfold Oper.wp
      simp [execOp, ho, resolve, invoke, builtin, hd, hs, hrun, Result.andThen]
      have hgt : goInt ((l.length - k : Nat) : Int) = .int .i64 ((l.length - k : Nat) : Int) := rfl
      have hB2 := (show Blk W g 5 cur from hg).row (bv (l.drop k) ++ cur.toList.drop (bv (l.drop k)).length).toArray
      have := h (W.setRow g (bv (l.drop k) ++ cur.toList.drop (bv (l.drop k)).length).toArray) ⟨by rw [bv_length, hdl]; omega, .inr ⟨g, c, _, by rw [hdl], hb, hB2, by rw [hdl]; omega, hc, by simp [hdl]; omega, by rw [hdl, Nat.mul_one]; simp [hdl]⟩⟩
        ⟨rfl, rfl, rfl, by simp [World.setRow], fun i hi hn => setRow_other W g i _ (fun e => hn (by rw [e]; rfl))⟩
      have e : (bv (l.drop k)).length = l.length - k := by rw [bv_length, hdl]
      rw [e] at this
      exact this

set_option maxRecDepth 100000 in
set_option maxHeartbeats 2000000 in
theorem fdrop_any (base : Nat) (F : Nat → Prop) (p : Nat) (K : List UInt8) (n : Nat) (over : Bool) (k : Nat) (hk : k ≤ K.length) (hn : n ≤ 1000000000) (hK : K.length ≤ 1000000000) (w : World) (h : FdS 80 base F w p K n over) :
    Calls Try.prog 47 #[.pointer (some ⟨p, 0, none⟩), .int .i64 k] w fun e w' => (∃ u, e = .returned u) ∧ FdS 80 base F w' p (K.drop k) (n + k) over ∧ Fr F w w' := by
  obtain ⟨v, h1, h2, h3, h4⟩ := id h
  obtain ⟨a, c, rfl, hc1, hc2⟩ := ownB_shape h2
  have hne : some p ≠ (Value.slice a K.length c).ownBlock := blk_ne_row h1 h2 (by decide)
  have HN := Lib.hid hne
  have H4 := Lib.hid h4
  have H2 := Lib.hid h2
  obtain ⟨x0, x1, x2, y0, y1, y2⟩ := cells3 h1
  have z1 : (k : Int) ≤ (K.length : Int) := by omega
  have z2 : (k : Int) ≤ (c : Int) := by omega
  have z3 : K.length ≤ c + k := by omega
  have hsh : (a = none ∧ c = 0 ∧ K = []) ∨ ∃ g, a = some ⟨g, 0, none⟩ := by
    rcases h2.2 with ⟨e, e2⟩ | ⟨g, cap, cur, e, _⟩
    · simp only [Value.slice.injEq] at e
      exact .inl ⟨e.1, e.2.2, List.eq_nil_of_length_eq_zero e.2.1⟩
    · simp only [Value.slice.injEq] at e
      exact .inr ⟨g, e.1⟩
  have gD : Grew w w.drew := Drew.grew ⟨1, rfl⟩
  have ho := own_grew h2 gD
  have hbs := Sl.of_own ho
  have HO := Lib.hid ho
  rcases hsh with ⟨rfl, rfl, rfl⟩ | ⟨g, rfl⟩
  · obtain rfl : k = 0 := by simpa using hk
    have hsv : Bs w.drew (.slice none (([] : List UInt8).length - 0) 0) (([] : List UInt8).drop 0) := Sl.nil _ 1
    have HSV := Lib.hid hsv
    clear h2 hne h4 h ho hbs hsv
    go_enter Try.func47, Try.ntmps47
    go_wp2
    go_region_law (refine step_copyB rfl (.tmp 12) (.tmp 18) rfl base none 0 [] (by simp [Act.eval, Act.put]) HO.out 0 (Nat.zero_le _) none 0 (by simp [Act.eval, Act.put]) HSV.out ?_; intro w2 ho2 hF2; have h1w := (h1.grew gD).fr hF2 (fun e => HN.out e.symm); obtain ⟨t0, t1, t2, s0, s1, s2⟩ := cells3 h1w)
    all_goals (
      go_wp2
      go_end0
      have hb3 := (h1w.set 0 (.slice none 0 0)).set 1 (.int .i64 ((n : Int) + 0))
      refine ⟨⟨_, rfl⟩, ⟨_, hb3, ?_, h3, fun i => H4.out i⟩, ?_⟩
      · exact own_set (own_set ho2 _ _ (fun e => HN.out e.symm)) _ _ (fun e => HN.out e.symm)
      · exact ((((Fr.of_grew gD).trans' hF2 (fun i _ e => (H4.out i).2 (.inr e))).set p 0 _ (fun _ => (H4.out p).2 (.inl rfl))).set p 1 _ (fun _ => (H4.out p).2 (.inl rfl))))
  · have hsv := bs_dropI hbs k hk
    rw [Nat.zero_add] at hsv
    generalize hsa : (if c = k then some (⟨g, 0, none⟩ : Addr) else some ⟨g, k, none⟩) = sa at hsv
    have HSV := Lib.hid hsv
    have HSA := Lib.hid hsa
    clear h2 hne h4 h ho hbs hsv hsa
    go_enter Try.func47, Try.ntmps47
    go_wp2
    go_region_law (refine step_copyB rfl (.tmp 12) (.tmp 18) rfl base (some ⟨g, 0, none⟩) c K (by simp [Act.eval, Act.put]) HO.out k hk sa (c - k) (by simp [Act.eval, Act.put, HSA.out]) HSV.out ?_; intro w2 ho2 hF2; have h1w := (h1.grew gD).fr hF2 (fun e => HN.out e.symm); obtain ⟨t0, t1, t2, s0, s1, s2⟩ := cells3 h1w)
    all_goals go_wp2
    all_goals (
      go_end0
      have hpg : p ≠ g := fun e => HN.out (by rw [e]; rfl)
      have hF3 : Fr F w w2 := (Fr.of_grew gD).trans' hF2 (fun i _ e => (H4.out i).2 (.inr e))
      first
        | (refine ⟨⟨_, rfl⟩, ⟨_, (h1w.set 0 _).set 1 _, own_set (own_set ho2 _ _ (fun e => hpg (Option.some.inj e).symm)) _ _ (fun e => hpg (Option.some.inj e).symm), h3, fun i => H4.out i⟩, ((hF3.set p 0 _ (fun _ => (H4.out p).2 (.inl rfl))).set p 1 _ (fun _ => (H4.out p).2 (.inl rfl)))⟩; done)
        | (have hck : c = k := by assumption
           subst hck
           refine ⟨⟨_, rfl⟩, ⟨_, (h1w.set 0 _).set 1 _, own_set (own_set ho2 _ _ (fun e => hpg (Option.some.inj e).symm)) _ _ (fun e => hpg (Option.some.inj e).symm), h3, fun i => H4.out i⟩, ((hF3.set p 0 _ (fun _ => (H4.out p).2 (.inl rfl))).set p 1 _ (fun _ => (H4.out p).2 (.inl rfl)))⟩; done))
end Go.Proofs.Ytoinndlialimcaa
