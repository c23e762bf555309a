/- rescriptlaw05: live: contract. -/
import Derived.Test.YtakogncnkbgkfaaOdk
namespace Go.Proofs.Ytakogncnkbgkfaa
open Go Go.RowKit Go.Shelf
attribute [local go_sem] Oper.semAt_some

theorem live51_any (base : Nat) (F : Nat → Prop) (b : List UInt8) (p m : Nat) (w : World) (h : OutO base F w p b m) :
    Calls Try.prog 33 #[.pointer (some ⟨p, 0, none⟩)] w fun e w' => e = .returned (.int .i64 (putR b (vput 300) m).2) ∧ OutP 73 base F p (putR b (vput 300) m).1 m w w' := by
  go_enter Try.func33, Try.ntmps33
  go_wp2_with fail
  refine (ovarint_any base F b p m 300 (by omega) _ h).mono ?_
  rintro e2 w2 ⟨rfl, h2⟩
  have H2 := Lib.hid h2
  clear h2
  go_wp2
  go_ret
  exact ⟨rfl, H2.out⟩
theorem live53_any (base : Nat) (F : Nat → Prop) (b : List UInt8) (p m : Nat) (w : World) (h : OutO base F w p b m) :
    Calls Try.prog 37 #[.pointer (some ⟨p, 0, none⟩)] w fun e w' => e = .returned (.int .i64 (putR b (vput 300) m).2) ∧ OutP 73 base F p (putR b (vput 300) m).1 m w w' := by
  go_enter Try.func37, Try.ntmps37
  go_wp2_with fail
  refine (ovarint_any base F b p m 300 (by omega) _ h).mono ?_
  rintro e2 w2 ⟨rfl, h2⟩
  have H2 := Lib.hid h2
  clear h2
  go_wp2
  go_ret
  exact ⟨rfl, H2.out⟩
theorem live52_any (base : Nat) (F : Nat → Prop) (b : List UInt8) (p m : Nat) (w : World) (h : OutO base F w p b m) :
    Calls Try.prog 35 #[.pointer (some ⟨p, 0, none⟩)] w fun e w' => e = .returned (.int .i64 (tagP b 0 0 m).2) ∧ OutP 73 base F p (tagP b 0 0 m).1 m w w' := by
  go_enter Try.func35, Try.ntmps35
  go_wp2_with fail
  refine (otag_any base F b p m 0 0 (by omega) (by omega) (by omega) _ h).mono ?_
  rintro e2 w2 ⟨rfl, h2⟩
  have H2 := Lib.hid h2
  clear h2
  go_wp2
  go_ret
  exact ⟨rfl, H2.out⟩
theorem tagP_pre (b : List UInt8) (num : Int) (wire m : Nat) : b <+: (tagP b num wire m).1 := by
  unfold tagP; split
  · exact List.prefix_refl _
  · exact putR_pre _ _ _
theorem tmake_err (num : Int) (wire : Nat) : (tmake num wire).2 < 4294967296 := by
  unfold tmake; split
  · simp
  split <;> simp
theorem tagP_err (b : List UInt8) (num : Int) (wire m : Nat) : (tagP b num wire m).2 < 4294967296 := by
  unfold tagP; split
  · exact tmake_err _ _
  · exact putR_err _ _ _

/-- the slice of the writers stays -/
def FnEnv (ts : Nat) (cs : Array Value) (W : World) (F : Nat → Prop) : Prop := Blk W ts 45 cs ∧ ¬ F ts
theorem FnEnv.step {ts : Nat} {cs : Array Value} {W W' : World} {F F' : Nat → Prop} (h : FnEnv ts cs W F) (hf : Fr F W W') (hn : ∀ k, F' k → F k ∨ W.heap.size ≤ k) : FnEnv ts cs W' F' :=
  ⟨h.1.fr hf h.2, fun hk => by
    rcases hn ts hk with h1 | h1
    · exact h.2 h1
    · have := h.1.lt; omega⟩
theorem FnEnv.sl {ts : Nat} {cs : Array Value} {W : World} {F : Nat → Prop} (h : FnEnv ts cs W F) (n : Nat) (hn : cs.size = n) (hb : n ≤ 1000000) : Sl W (.slice (some ⟨ts, 0, none⟩) n n) n 1 cs.toList := by
  refine ⟨by simp [hn], _, n, rfl, Nat.le_refl _, by unfold maxLen; omega, (fun h => by cases h), ?_⟩
  rintro ad had j u hu
  cases had
  rw [Addr.add_lit, Nat.zero_add, h.1.cell]
  rwa [Array.getElem?_toList] at hu

theorem vput300 : vput 300 = [172, 2] := by rw [vput_big 300 (by omega), vput_small (300 / 128) (by omega)]; rfl
theorem vput3 : vput 3 = [3] := by rw [vput_small 3 (by omega)]; rfl
theorem vput2 : vput 2 = [2] := by rw [vput_small 2 (by omega)]; rfl

theorem lit_dis {t : TypeId} {base : Nat} {F : Nat → Prop} {w : World} {p m n c : Nat} {b l : List UInt8} (h : OutS t base F w p b m) : ∀ g, Value.blk (.slice (some ⟨w.heap.size, 0, none⟩) n c) = some g → l ≠ [] → ¬ F g := by
  intro g hg _ hF
  have h1 := (h.own _ hF).2
  have h2 : w.heap.size = g := by cases hg; rfl
  omega

set_option maxRecDepth 100000 in
set_option maxHeartbeats 4000000 in
theorem live5_any (w : World) : Calls Try.prog 8 #[] w fun e w' => e = .returned (.bool true) ∧ Grew w w' := by
  have ra : putR [] (vput ([1, 2, 3] : List UInt8).length ++ [1, 2, 3]) 3 = ([], 14) := by rw [show ([1, 2, 3] : List UInt8).length = 3 from rfl, vput3]; rfl
  have rb : putR [] (vput ([1, 2] : List UInt8).length ++ [1, 2]) 3 = ([2, 1, 2], 0) := by rw [show ([1, 2] : List UInt8).length = 2 from rfl, vput2]; rfl
  have rc : putR [2, 1, 2] [7] 3 = ([2, 1, 2], 14) := rfl
  have rd : allR [fun b => putR b (vput 300) 9, fun b => tagP b 0 0 9] [] = ([], 1) := by rw [vput300]; rfl
  have re : allR [fun b => putR b (vput 300) 9, fun b => (b, 0)] [] = ([172, 2], 0) := by rw [vput300]; rfl
  have ka := fun base F p x w h hx hd => obytes_any base F [] [1, 2, 3] p 3 x w h hx hd (by simp)
  have kb := fun base F p x w h hx hd => obytes_any base F [] [1, 2] p 3 x w h hx hd (by simp)
  have kc := fun base F p x w h hx => raw_any base F [2, 1, 2] [7] p 3 x w h hx (by simp)
  simp only [ra] at ka
  simp only [rb] at kb
  simp only [rc] at kc
  have KA := Lib.hid ka
  have KB := Lib.hid kb
  have KC := Lib.hid kc
  have RD := Lib.hid rd
  have RE := Lib.hid re
  clear ka kb kc rd re ra rb rc
  go_enter Try.func8, Try.ntmps8
  go_wp2_with fail
  refine (onew_any 3 _).mono ?_
  rintro e w1 ⟨rfl, o1, g1⟩
  rw [show clampM 3 = 3 from rfl] at o1
  go_wp2_with fail
  have l1 := bs_lit w1 [1, 2, 3] #[.int .u8 1, .int .u8 2, .int .u8 3] 3 rfl rfl (by omega)
  have gl := grew_alloc w1 (.cells #[.int .u8 1, .int .u8 2, .int .u8 3] 5)
  refine (KA.out _ _ _ _ _ (o1.grew gl) l1 (lit_dis o1)).mono ?_
  rintro e w2 ⟨rfl, F2, o2, f2, n2⟩
  have G2 : Grew w w2 := f2.grew (Grew.trans g1 gl) (fun i e => by omega)
  clear l1 gl f2 n2 g1 o1
  go_wp2_with fail
  have l1 := bs_lit w2 [1, 2] #[.int .u8 1, .int .u8 2] 2 rfl rfl (by omega)
  have gl := grew_alloc w2 (.cells #[.int .u8 1, .int .u8 2] 5)
  refine (KB.out _ _ _ _ _ (o2.grew gl) l1 (lit_dis o2)).mono ?_
  rintro e w3 ⟨rfl, F3, o3, f3, n3⟩
  have G3 : Grew w w3 := f3.grew (Grew.trans G2 gl) (fun i e => (o2.own i e).1)
  clear l1 gl f3 n3 G2 o2
  go_wp2_with fail
  have l1 := bs_lit w3 [7] #[.int .u8 7] 1 rfl rfl (by omega)
  have gl := grew_alloc w3 (.cells #[.int .u8 7] 5)
  refine (KC.out _ _ _ _ _ (o3.grew gl) l1).mono ?_
  rintro e w4 ⟨rfl, F4, o4, f4, n4⟩
  have G4 : Grew w w4 := f4.grew (Grew.trans G3 gl) (fun i e => (o3.own i e).1)
  clear l1 gl f4 n4 G3 o3
  go_wp2_with fail
  refine (onew_any 9 _).mono ?_
  rintro e w5 ⟨rfl, q5, g5⟩
  rw [show clampM 9 = 9 from rfl] at q5
  have o5 := o4.grew g5
  have G5 := Grew.trans G4 g5
  have hd5 : ∀ k, F4 k → k < w4.heap.size := fun k hk => (o4.own k hk).2
  have hsz4 := G4.size
  clear g5 o4 G4
  go_wp2_with fail
  obtain ⟨fs1, hfs1⟩ : ∃ fs1 : Array Value, #[.func (.func 33) #[] #[], .func (.func 35) #[] #[]] = fs1 := ⟨_, rfl⟩
  have gs := grew_alloc w5 (.cells fs1 45)
  have hE : FnEnv w5.heap.size fs1 (w5.alloc (.cells fs1 45)) (· = w4.heap.size) := ⟨Blk.new _ _ _, fun h => by have := q5.own w4.heap.size rfl; omega⟩
  rw [hfs1]
  refine (oall_any (FnEnv w5.heap.size fs1) w4.heap.size w4.heap.size 9 (· = w4.heap.size) [] [fun b => putR b (vput 300) 9, fun b => tagP b 0 0 9] fs1.toList _ _ hE (q5.grew gs) (by subst hfs1; rfl) (by simp) (fun W F h => h.sl 2 (by subst hfs1; rfl) (by omega)) ?_).mono ?_
  · subst hfs1
    intro i cc f hc hf
    match i with
    | 0 =>
      cases hc
      cases hf
      refine .inr ⟨fun b => putR_pre _ _ _, fun b _ => putR_err _ _ _, _, _, rfl, enters_of Try.func33 (by kernel_rfl) rfl, fun F1 w1 b1 hE1 hO1 => ?_⟩
      refine (live51_any _ F1 b1 _ 9 w1 hO1).mono ?_
      rintro e w2 ⟨rfl, F2, q1, q2, q3⟩
      exact ⟨rfl, F2, q1, q2, q3, hE1.step q2 q3⟩
    | 1 =>
      cases hc
      cases hf
      refine .inr ⟨fun b => tagP_pre _ _ _ _, fun b _ => tagP_err _ _ _ _, _, _, rfl, enters_of Try.func35 (by kernel_rfl) rfl, fun F1 w1 b1 hE1 hO1 => ?_⟩
      refine (live52_any _ F1 b1 _ 9 w1 hO1).mono ?_
      rintro e w2 ⟨rfl, F2, q1, q2, q3⟩
      exact ⟨rfl, F2, q1, q2, q3, hE1.step q2 q3⟩
    | j + 2 => simp at hc
  rw [RD.out]
  rintro e w6 ⟨rfl, F6, q6, f6, n6⟩
  have o6 := (o5.grew gs).fr f6 (fun k hk e => by have := hd5 k hk; omega)
  have G6 : Grew w w6 := f6.grew (Grew.trans G5 gs) (fun i e => by omega)
  have hd6 : ∀ k, F6 k → w4.heap.size ≤ k := fun k hk => (q6.own k hk).1
  have hl6 : ∀ k, F6 k → k < w6.heap.size := fun k hk => (q6.own k hk).2
  clear n6 f6 gs hE o5 q5 G5 hfs1
  go_wp2_with fail
  obtain ⟨fs2, hfs2⟩ : ∃ fs2 : Array Value, #[.func (.func 37) #[] #[], .nilFunc] = fs2 := ⟨_, rfl⟩
  have gs := grew_alloc w6 (.cells fs2 45)
  have hE : FnEnv w6.heap.size fs2 (w6.alloc (.cells fs2 45)) F6 := ⟨Blk.new _ _ _, fun h => by have := hl6 _ h; omega⟩
  rw [hfs2]
  refine (oall_any (FnEnv w6.heap.size fs2) w4.heap.size w4.heap.size 9 F6 [] [fun b => putR b (vput 300) 9, fun b => (b, 0)] fs2.toList _ _ hE (q6.grew gs) (by subst hfs2; rfl) (by simp) (fun W F h => h.sl 2 (by subst hfs2; rfl) (by omega)) ?_).mono ?_
  · subst hfs2
    intro i cc f hc hf
    match i with
    | 0 =>
      cases hc
      cases hf
      refine .inr ⟨fun b => putR_pre _ _ _, fun b _ => putR_err _ _ _, _, _, rfl, enters_of Try.func37 (by kernel_rfl) rfl, fun F1 w1 b1 hE1 hO1 => ?_⟩
      refine (live53_any _ F1 b1 _ 9 w1 hO1).mono ?_
      rintro e w2 ⟨rfl, F2, q1, q2, q3⟩
      exact ⟨rfl, F2, q1, q2, q3, hE1.step q2 q3⟩
    | 1 =>
      cases hc
      cases hf
      exact .inl ⟨rfl, fun _ => rfl⟩
    | j + 2 => simp at hc
  rw [RE.out]
  rintro e w7 ⟨rfl, F7, q7, f7, n7⟩
  have o7 := (o6.grew gs).fr f7 (fun k hk e => by have := hd5 k hk; have := hd6 k e; omega)
  have G7 : Grew w w7 := f7.grew (Grew.trans G6 gs) (fun i e => by have := hd6 i e; omega)
  clear n7 f7 gs hE o6 q6 G6 hfs2 hd5 hd6 hl6
  go_wp2_with fail
  refine (oout_any _ F4 _ _ _ _ o7).mono ?_
  rintro e w8 ⟨v8, rfl, r8, g8⟩
  have s8 := Sl.of_own r8
  have G8 := Grew.trans G7 g8
  have l8 := bs_lit w8 [2, 1, 2] #[.int .u8 2, .int .u8 1, .int .u8 2] 3 rfl rfl (by omega)
  have gl := grew_alloc w8 (.cells #[.int .u8 2, .int .u8 1, .int .u8 2] 5)
  have ks := same_any [2, 1, 2] [2, 1, 2] _ _ _ (s8.grew gl) l8
  rw [show (([2, 1, 2] : List UInt8) == [2, 1, 2]) = true from rfl] at ks
  have KS := Lib.hid ks
  have o9 := (o7.grew g8).grew gl
  have q9 := (q7.grew g8).grew gl
  have G9 := Grew.trans G8 gl
  obtain ⟨a8, c8, rfl⟩ := bs_len s8
  clear ks l8 r8 s8 g8 gl o7 q7 G7 G8
  go_wp2_with fail
  refine KS.out.mono ?_
  rintro e w9 ⟨rfl, nd, rfl⟩
  have o9' := o9.grew (Drew.grew ⟨nd, rfl⟩)
  go_wp2_with fail
  refine (oleft_any _ F4 _ _ _ _ o9').mono ?_
  rintro e w10 ⟨rfl, nd2, rfl⟩
  rw [show 3 - ([2, 1, 2] : List UInt8).length = 0 from rfl]
  have q10 := q9.grew (Drew.grew ⟨nd + nd2, rfl⟩)
  have G10 := Grew.trans G9 (Drew.grew ⟨nd + nd2, rfl⟩)
  clear o9 o9' q9 G9
  go_wp2_with fail
  refine (oout_any _ F7 _ _ _ _ q10).mono ?_
  rintro e w11 ⟨v11, rfl, r11, g11⟩
  obtain ⟨a11, c11, rfl⟩ := bs_len (Sl.of_own r11)
  have q11 := q10.grew g11
  have G11 := Grew.trans G10 g11
  clear q10 G10 r11 g11
  go_wp2_with fail
  refine (oleft_any _ F7 _ _ _ _ q11).mono ?_
  rintro e w12 ⟨rfl, nd3, rfl⟩
  rw [show 9 - (([172, 2] : List UInt8), 0).1.length = 7 from rfl]
  go_wp2_with fail
  refine (raw_nil _ _).mono ?_
  rintro e w13 ⟨rfl, rfl⟩
  go_wp2_with fail
  refine (oleft_nil _).mono ?_
  rintro e w13 ⟨rfl, rfl⟩
  go_wp2_with fail
  refine (oout_nil _).mono ?_
  rintro e w13 ⟨rfl, rfl⟩
  go_wp2_with fail
  refine (oall_nil _ _).mono ?_
  rintro e w13 ⟨rfl, rfl⟩
  go_wp2
  go_ret
  exact ⟨rfl, Grew.trans G11 (Drew.grew ⟨_, rfl⟩)⟩
end Go.Proofs.Ytakogncnkbgkfaa
