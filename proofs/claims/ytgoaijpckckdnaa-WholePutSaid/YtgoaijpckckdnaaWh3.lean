/- rescripttop.awakePut: contract; WholePut: plain laws and the walk. -/
import Derived.Test.YtgoaijpckckdnaaOal
import Derived.Test.YtgoaijpckckdnaaSkF
import Derived.Test.YtgoaijpckckdnaaSkV
import Derived.Test.YtgoaijpckckdnaaSkW
namespace Go.Proofs.Ytgoaijpckckdnaa
open Go Go.RowKit Go.Shelf
attribute [local go_sem] Oper.semAt_some

/-- what the two writers of a field find -/
def PutEnv (x : Value) (l : List UInt8) (t8 ts : Nat) (fc cs : Array Value) (tt : TypeId) (W : World) (F : Nat → Prop) : Prop :=
  Bs W x l ∧ Blk W t8 39 fc ∧ Blk W ts tt cs ∧ (∀ g, Value.blk x = some g → l ≠ [] → g < W.heap.size ∧ ¬ F g) ∧ ¬ F t8 ∧ ¬ F ts
theorem PutEnv.step {x : Value} {l : List UInt8} {t8 ts : Nat} {fc cs : Array Value} {tt : TypeId} {W W' : World} {F F' : Nat → Prop} (h : PutEnv x l t8 ts fc cs tt W F) (hf : Fr F W W') (hn : ∀ k, F' k → F k ∨ W.heap.size ≤ k) : PutEnv x l t8 ts fc cs tt W' F' := by
  obtain ⟨h1, h2, h3, h4, h5, h6⟩ := h
  refine ⟨h1.fr hf (fun g hg hc => (h4 g hg (by intro e; subst e; exact hc rfl)).2), h2.fr hf h5, h3.fr hf h6, fun g hg hc => ?_, fun hk => ?_, fun hk => ?_⟩
  · obtain ⟨q1, q2⟩ := h4 g hg hc
    refine ⟨Nat.lt_of_lt_of_le q1 hf.size, fun hk => ?_⟩
    rcases hn g hk with h | h
    · exact q2 h
    · omega
  · rcases hn t8 hk with h | h
    · exact h5 h
    · have := h2.lt; omega
  · rcases hn ts hk with h | h
    · exact h6 h
    · have := h3.lt; omega
theorem tagP_pre (b : List UInt8) (num : Int) (wire m : Nat) : b <+: (tagP b num wire m).1 := by
  unfold tagP; split
  · exact List.prefix_refl _
  · exact putR_pre _ _ _
theorem tagP_err (b : List UInt8) (num : Int) (wire m : Nat) : (tagP b num wire m).2 < 4294967296 := by
  unfold tagP; split
  · unfold tmake; split
    · simp
    split <;> simp
  · exact putR_err _ _ _
theorem putR_two (b x y : List UInt8) (m : Nat) (hb : b.length ≤ m) : allR [fun b => putR b x m, fun b => putR b y m] b = putR b (x ++ y) m := by
  by_cases h1 : m < b.length + x.length
  · have e1 : putR b x m = (b, 14) := by unfold putR; rw [if_pos h1]
    have e2 : putR b (x ++ y) m = (b, 14) := by unfold putR; rw [if_pos (by rw [List.length_append]; omega)]
    simp only [allR, allGo, e1, e2]; simp
  · have e1 : putR b x m = (b ++ x, 0) := by unfold putR; rw [if_neg h1]
    by_cases h2 : m < b.length + (x.length + y.length)
    · have e2 : putR b (x ++ y) m = (b, 14) := by unfold putR; rw [if_pos (by rw [List.length_append]; omega)]
      have e3 : putR (b ++ x) y m = (b ++ x, 14) := by unfold putR; rw [if_pos (by rw [List.length_append]; omega)]
      simp only [allR, allGo, e1, e2, e3]; simp
    · have e2 : putR b (x ++ y) m = (b ++ (x ++ y), 0) := by unfold putR; rw [if_neg (by rw [List.length_append]; omega)]
      have e3 : putR (b ++ x) y m = (b ++ x ++ y, 0) := by unfold putR; rw [if_neg (by rw [List.length_append]; omega)]
      simp only [allR, allGo, e1, e2, e3]; simp
/-- both, or none -/
theorem allR_put (b : List UInt8) (x : Fld) (m : Nat) (hb : b.length ≤ m) (hl : (fB x).length ≤ 8192) :
    allR [fun b => tagP b (fNum x) (fWire x) m, fun b => putR b (valB x) m] b = if (putF x).2 ≠ 0 then (b, (putF x).2) else putR b (putF x).1 m := by
  by_cases h1 : (tmake (fNum x) (fWire x)).2 ≠ 0
  · have ep : putF x = ([], (tmake (fNum x) (fWire x)).2) := by unfold putF; rw [if_pos h1]
    have et : tagP b (fNum x) (fWire x) m = (b, (tmake (fNum x) (fWire x)).2) := by unfold tagP; rw [if_pos h1]
    rw [ep]
    simp only [allR, allGo, et, if_pos h1]
  · have ep : putF x = (vput (tmake (fNum x) (fWire x)).1 ++ valB x, 0) := by unfold putF; rw [if_neg h1, if_neg (by rintro ⟨-, h⟩; omega)]
    have e : (fun b => tagP b (fNum x) (fWire x) m) = fun b => putR b (vput (tmake (fNum x) (fWire x)).1) m := by
      funext b; unfold tagP; rw [if_neg h1]
    rw [ep, e, if_neg (by simp)]
    exact putR_two _ _ _ _ hb
theorem putsF_snoc : ∀ (fs : List Fld) (i : Nat) (x : Fld), (∀ y ∈ fs, (putF y).2 = 0) → (putF x).2 = 0 → (putsF i (fs ++ [x])).1 = (putsF i fs).1 ++ (putF x).1 ∧ (putsF i (fs ++ [x])).2 = (0, 0)
  | [], i, x, _, hx => by
    rw [List.nil_append, putsF_cons, if_neg (by omega)]
    simp [putsF]
  | y :: fs, i, x, h, hx => by
    obtain ⟨h1, h2⟩ := putsF_snoc fs (i + 1) x (fun z hz => h z (List.mem_cons_of_mem _ hz)) hx
    have hy := h y (List.mem_cons_self ..)
    have h3 : (putsF (i + 1) fs).2.1 = 0 := by
      clear h1 h2
      revert i
      induction fs with
      | nil => intro i; rfl
      | cons z fs ih =>
        intro i
        rw [putsF_cons, if_neg (by have := h z (by simp); omega), if_neg (by have := ih (fun q hq => h q (by simp at hq ⊢; rcases hq with h | h <;> simp [h])) (i + 1); omega)]
    rw [List.cons_append, putsF_cons, if_neg (by omega), if_neg (by rw [h2]; simp), putsF_cons, if_neg (by omega), if_neg (by omega), h1]
    exact ⟨by rw [List.append_assoc], rfl⟩
set_option maxRecDepth 10000 in
set_option maxHeartbeats 1000000 in
theorem wput1_any (base : Nat) (F : Nat → Prop) (b : List UInt8) (p m t8 : Nat) (x : Fld) (xv : Value) (w : World) (hx : x.ok) (h : OutO base F w p b m) (hb : Blk w t8 39 #[.int .i64 x.1, .int .u8 (x.2.1 : Nat), .int .u64 (x.2.2.1 : Nat), xv, .int .i64 x.2.2.2.2]) :
    Calls Try.prog 44 #[.pointer (some ⟨p, 0, none⟩), .pointer (some ⟨t8, 0, none⟩)] w fun e w' => e = .returned (.int .i64 (tagP b (fNum x) (fWire x) m).2) ∧ OutP 127 base F p (tagP b (fNum x) (fWire x) m).1 m w w' := by
  obtain ⟨c0, c1, -⟩ := cells5 hb
  have K := Lib.hid (otag_any base F b p m x.1 x.2.1 hx.1 hx.2.1 hx.2.2.1 w h)
  clear hx h hb
  go_enter Try.func44, Try.ntmps44
  go_wp2_with fail
  refine K.out.mono ?_
  rintro e w1 ⟨rfl, h1⟩
  have H1 := Lib.hid h1
  clear h1
  go_wp2
  go_ret
  exact ⟨rfl, H1.out⟩
set_option maxRecDepth 10000 in
set_option maxHeartbeats 2000000 in
theorem wput2_any (base : Nat) (F : Nat → Prop) (b : List UInt8) (p m t8 : Nat) (x : Fld) (xv : Value) (w : World) (hx : x.ok) (h : OutO base F w p b m) (hb : Blk w t8 39 #[.int .i64 x.1, .int .u8 (x.2.1 : Nat), .int .u64 (x.2.2.1 : Nat), xv, .int .i64 x.2.2.2.2])
    (hv : Bs w xv (fB x)) (hdis : ∀ g, Value.blk xv = some g → fB x ≠ [] → ¬ F g) (hl : (fB x).length ≤ 100000000) :
    Calls Try.prog 46 #[.pointer (some ⟨p, 0, none⟩), .pointer (some ⟨t8, 0, none⟩)] w fun e w' => e = .returned (.int .i64 (putR b (valB x) m).2) ∧ OutP 127 base F p (putR b (valB x) m).1 m w w' := by
  obtain ⟨num, wire, n, bs, at_⟩ := x
  obtain ⟨-, -, hx3, hx4⟩ := hx
  simp only [fB, fWire, fN] at hv hdis hl hx3 hx4
  obtain ⟨a, c, rfl⟩ := bs_len hv
  obtain ⟨c0, c1, c2, c3, c4, -⟩ := cells5 hb
  simp only at c1 c2 c3
  by_cases h0 : wire = 0
  · subst h0
    rw [show valB (num, 0, n, bs, at_) = vput n from rfl]
    have K := Lib.hid (ovarint_any base F b p m n hx4 w h)
    clear h hb hv hdis
    go_enter Try.func46, Try.ntmps46
    go_wp2_with fail
    refine K.out.mono ?_
    rintro e w1 ⟨rfl, h1⟩
    have H1 := Lib.hid h1
    clear h1
    go_wp2
    go_ret
    exact ⟨rfl, H1.out⟩
  have q0 : ((wire : Int) == 0) = false := by simp; omega
  by_cases h1 : wire = 1
  · subst h1
    rw [show valB (num, 1, n, bs, at_) = fixB 8 n from rfl]
    have K := Lib.hid (oeight_any base F b p m n hx4 w h)
    clear h hb hv hdis h0
    go_enter Try.func46, Try.ntmps46
    go_wp2_with fail
    refine K.out.mono ?_
    rintro e w1 ⟨rfl, h1⟩
    have H1 := Lib.hid h1
    clear h1
    go_wp2
    go_ret
    exact ⟨rfl, H1.out⟩
  have q1 : ((wire : Int) == 1) = false := by simp; omega
  by_cases h5 : wire = 5
  · subst h5
    rw [show valB (num, 5, n, bs, at_) = fixB 4 (n % 4294967296) from rfl]
    have K := Lib.hid (ofour_any base F b p m (n % 4294967296) (by omega) w h)
    clear h hb hv hdis h0 h1
    go_enter Try.func46, Try.ntmps46
    go_wp2_with fail
    refine K.out.mono ?_
    rintro e w1 ⟨rfl, h1⟩
    have H1 := Lib.hid h1
    clear h1
    go_wp2
    go_ret
    exact ⟨rfl, H1.out⟩
  have q5 : ((wire : Int) == 5) = false := by simp; omega
  rw [show valB (num, wire, n, bs, at_) = vput bs.length ++ bs from by unfold valB; simp only [fWire, fB]; rw [if_neg h0, if_neg h1, if_neg h5]]
  have K := Lib.hid (obytes_any base F b bs p m _ w h hv hdis hl)
  clear h hb hv hdis h0 h1 h5
  go_enter Try.func46, Try.ntmps46
  go_wp2_with fail
  refine K.out.mono ?_
  rintro e w1 ⟨rfl, h1⟩
  have H1 := Lib.hid h1
  clear h1
  go_wp2
  go_ret
  exact ⟨rfl, H1.out⟩
set_option maxRecDepth 100000 in
set_option maxHeartbeats 1000000 in
theorem putall_any (base : Nat) (F : Nat → Prop) (b : List UInt8) (p m t8 ts : Nat) (tt : TypeId) (x : Fld) (xv : Value) (w : World) (hx : x.ok) (hl : (fB x).length ≤ 8192) (h : OutO base F w p b m)
    (hE : PutEnv xv (fB x) t8 ts #[.int .i64 x.1, .int .u8 (x.2.1 : Nat), .int .u64 (x.2.2.1 : Nat), xv, .int .i64 x.2.2.2.2] #[.func (.func 44) #[] #[.pointer (some ⟨t8, 0, none⟩)], .func (.func 46) #[] #[.pointer (some ⟨t8, 0, none⟩)]] tt w F) :
    Calls Try.prog 43 #[.pointer (some ⟨p, 0, none⟩), .slice (some ⟨ts, 0, none⟩) 2 2] w fun e w' => e = .returned (.int .i64 (if (putF x).2 ≠ 0 then (b, (putF x).2) else putR b (putF x).1 m).2) ∧ OutP 127 base F p (if (putF x).2 ≠ 0 then (b, (putF x).2) else putR b (putF x).1 m).1 m w w' := by
  have hbm : b.length ≤ m := h.choose_spec.2.2.1
  rw [← allR_put b x m hbm hl]
  have hf1 := enters_of Try.func44 (by kernel_rfl) rfl
  have hf2 := enters_of Try.func46 (by kernel_rfl) rfl
  refine oall_any (PutEnv xv (fB x) t8 ts #[.int .i64 x.1, .int .u8 (x.2.1 : Nat), .int .u64 (x.2.2.1 : Nat), xv, .int .i64 x.2.2.2.2] #[.func (.func 44) #[] #[.pointer (some ⟨t8, 0, none⟩)], .func (.func 46) #[] #[.pointer (some ⟨t8, 0, none⟩)]] tt) base p m F b
    [fun b => tagP b (fNum x) (fWire x) m, fun b => putR b (valB x) m] [.func (.func 44) #[] #[.pointer (some ⟨t8, 0, none⟩)], .func (.func 46) #[] #[.pointer (some ⟨t8, 0, none⟩)]] _ w hE h rfl (by simp) ?_ ?_
  · rintro W F' ⟨-, -, hbs, -⟩
    refine ⟨rfl, _, 2, rfl, Nat.le_refl _, by unfold maxLen; omega, (fun h => by cases h), ?_⟩
    rintro ad had j u hu
    cases had
    rw [Addr.add_lit, Nat.zero_add, hbs.cell]
    simpa using hu
  · intro i cc f hc hf
    match i with
    | 0 =>
      cases hc
      cases hf
      refine .inr ⟨fun b => tagP_pre _ _ _ _, fun b _ => tagP_err _ _ _ _, 44, _, rfl, hf1, fun F1 w1 b1 hE1 hO1 => ?_⟩
      refine (wput1_any base F1 b1 p m t8 x xv w1 hx hO1 hE1.2.1).mono ?_
      rintro e w2 ⟨rfl, F2, q1, q2, q3⟩
      exact ⟨rfl, F2, q1, q2, q3, hE1.step q2 q3⟩
    | 1 =>
      cases hc
      cases hf
      refine .inr ⟨fun b => putR_pre _ _ _, fun b _ => putR_err _ _ _, 46, _, rfl, hf2, fun F1 w1 b1 hE1 hO1 => ?_⟩
      refine (wput2_any base F1 b1 p m t8 x xv w1 hx hO1 hE1.2.1 hE1.1 (fun g hg hc => (hE1.2.2.2.1 g hg hc).2) (by omega)).mono ?_
      rintro e w2 ⟨rfl, F2, q1, q2, q3⟩
      exact ⟨rfl, F2, q1, q2, q3, hE1.step q2 q3⟩
    | j + 2 => simp at hc
/-! ## what must come -/
def awP : Fld := (2, 2, 0, [7], 0)
instance : DecidableEq Fld := inferInstanceAs (DecidableEq (Int × Nat × Nat × List UInt8 × Int))
instance : DecidableEq (List Fld) := inferInstance
instance : DecidableEq (List Fld × Nat × Nat) := inferInstance
theorem awp_f : fieldsR [18, 1, 7] = ([awP], 0, 0) := by decide +kernel
theorem awp_r : allR [fun b => tagP b 2 2 9, fun b => putR b (vput 1 ++ [7]) 9] [] = ([18, 1, 7], 0) := by decide +kernel
def AwEnv (ts : Nat) (cs : Array Value) (tt : TypeId) (W : World) (F : Nat → Prop) : Prop := Blk W ts tt cs ∧ ¬ F ts
theorem AwEnv.step {ts : Nat} {cs : Array Value} {tt : TypeId} {W W' : World} {F F' : Nat → Prop} (h : AwEnv ts cs tt W F) (hf : Fr F W W') (hn : ∀ k, F' k → F k ∨ W.heap.size ≤ k) : AwEnv ts cs tt W' F' := by
  refine ⟨h.1.fr hf h.2, fun hk => ?_⟩
  rcases hn ts hk with h1 | h1
  · exact h.2 h1
  · have := h.1.lt; omega
set_option maxRecDepth 10000 in
theorem aw1_any (base : Nat) (F : Nat → Prop) (b : List UInt8) (p m : Nat) (w : World) (h : OutO base F w p b m) :
    Calls Try.prog 89 #[.pointer (some ⟨p, 0, none⟩)] w fun e w' => e = .returned (.int .i64 (tagP b 2 2 m).2) ∧ OutP 127 base F p (tagP b 2 2 m).1 m w w' := by
  have K := Lib.hid (otag_any base F b p m 2 2 (by omega) (by omega) (by omega) w h)
  clear h
  go_enter Try.func89, Try.ntmps89
  go_wp2_with fail
  refine K.out.mono ?_
  rintro e w1 ⟨rfl, h1⟩
  have H1 := Lib.hid h1
  clear h1
  go_wp2
  go_ret
  exact ⟨rfl, H1.out⟩
set_option maxRecDepth 10000 in
theorem aw2_any (base : Nat) (F : Nat → Prop) (b : List UInt8) (p m : Nat) (w : World) (h : OutO base F w p b m) :
    Calls Try.prog 90 #[.pointer (some ⟨p, 0, none⟩)] w fun e w' => e = .returned (.int .i64 (putR b (vput 1 ++ [7]) m).2) ∧ OutP 127 base F p (putR b (vput 1 ++ [7]) m).1 m w w' := by
  have ga := grew_alloc w (.cells #[.int .u8 7] 5)
  have K := Lib.hid (obytes_any base F b [7] p m _ _ (h.grew ga) (bs_byte w 7 7 rfl) (fun g hg _ hf => by have := (h.own _ hf).2; cases hg; simp at this) (by simp))
  clear h
  go_enter Try.func90, Try.ntmps90
  go_wp2_with fail
  refine K.out.mono ?_
  rintro e w1 ⟨rfl, h1⟩
  have H1 := Lib.hid h1
  clear h1
  go_wp2
  go_ret
  exact ⟨rfl, H1.out.pre ga⟩
set_option maxRecDepth 100000 in
set_option maxHeartbeats 4000000 in
theorem awakePut_any (w : World) : Calls Try.prog 41 #[] w fun e w' => e = .returned (.bool true) ∧ Grew w w' := by
  go_enter Try.func41, Try.ntmps41
  go_wp2_with fail
  refine (onew_any 9 w).mono ?_
  rintro e w1 ⟨rfl, hO, g1⟩
  rw [show clampM 9 = 9 from by decide] at hO
  obtain ⟨p, hp⟩ : ∃ p, p = w.heap.size := ⟨_, rfl⟩
  rw [← hp] at hO ⊢
  have hpw : w.heap.size ≤ p := by omega
  have HO := Lib.hid hO
  clear hO hp
  have ga := grew_alloc w1 (.cells #[.func (.func 89) #[] #[], .func (.func 90) #[] #[]] 76)
  have hE : AwEnv w1.heap.size #[.func (.func 89) #[] #[], .func (.func 90) #[] #[]] 76 (w1.alloc (.cells #[.func (.func 89) #[] #[], .func (.func 90) #[] #[]] 76)) (· = p) :=
    ⟨Blk.new _ _ _, fun e => by have := (HO.out.own p rfl).2; omega⟩
  have ka := oall_any (AwEnv w1.heap.size #[.func (.func 89) #[] #[], .func (.func 90) #[] #[]] 76) p p 9 (· = p) []
    [fun b => tagP b 2 2 9, fun b => putR b (vput 1 ++ [7]) 9] [.func (.func 89) #[] #[], .func (.func 90) #[] #[]] (.slice (some ⟨w1.heap.size, 0, none⟩) 2 2) _ hE (HO.out.grew ga) rfl (by simp) (by
    rintro W F' ⟨hbs, -⟩
    refine ⟨rfl, _, 2, rfl, Nat.le_refl _, by unfold maxLen; omega, (fun h => by cases h), ?_⟩
    rintro ad had j u hu
    cases had
    rw [Addr.add_lit, Nat.zero_add, hbs.cell]
    simpa using hu) (by
    intro i cc f hc hf
    match i with
    | 0 =>
      cases hc
      cases hf
      refine .inr ⟨fun b => tagP_pre _ _ _ _, fun b _ => tagP_err _ _ _ _, 89, _, rfl, enters_of Try.func89 (by kernel_rfl) rfl, fun F1 w1 b1 hE1 hO1 => ?_⟩
      refine (aw1_any p F1 b1 p 9 w1 hO1).mono ?_
      rintro e w2 ⟨rfl, F2, q1, q2, q3⟩
      exact ⟨rfl, F2, q1, q2, q3, hE1.step q2 q3⟩
    | 1 =>
      cases hc
      cases hf
      refine .inr ⟨fun b => putR_pre _ _ _, fun b _ => putR_err _ _ _, 90, _, rfl, enters_of Try.func90 (by kernel_rfl) rfl, fun F1 w1 b1 hE1 hO1 => ?_⟩
      refine (aw2_any p F1 b1 p 9 w1 hO1).mono ?_
      rintro e w2 ⟨rfl, F2, q1, q2, q3⟩
      exact ⟨rfl, F2, q1, q2, q3, hE1.step q2 q3⟩
    | j + 2 => simp at hc)
  rw [awp_r] at ka
  have KA := Lib.hid ka
  clear ka hE
  go_wp2_with fail
  refine KA.out.mono ?_
  rintro e w2 ⟨rfl, F2, hO2, hF2, hN2⟩
  have G2 : Grew w w2 := hF2.grew (g1.trans ga) (fun i e => by omega)
  have HO2 := Lib.hid hO2
  clear hO2 hF2 hN2
  go_wp2_with fail
  refine (oout_any _ _ _ _ _ _ HO2.out).mono ?_
  rintro e w3 ⟨v3, rfl, ho3, g3⟩
  obtain ⟨a3, n3, c3, rfl, hn3⟩ := bs_shape (Sl.of_own ho3)
  have HB3 := Lib.hid (Sl.of_own ho3)
  clear ho3
  go_wp2_with fail
  refine (sfields_any [18, 1, 7] _ _ HB3.out (by decide)).mono ?_
  rw [awp_f]
  rintro e w4 ⟨v4, rfl, ⟨qs, hqs, hV⟩, g4⟩
  obtain ⟨y1, rfl⟩ : ∃ y : Value, qs = [(awP, y)] := by
    match qs, hqs with
    | [], h => simp at h
    | [(q1, q2)], h => simp at h; subst h; exact ⟨q2, rfl⟩
    | q :: r :: t, h => simp at h
  have hfl := hV.flr
  obtain ⟨ra, rc, rfl, r1, r2, -, r4⟩ := hfl.1.open
  obtain ⟨rb, ro, rfl, -⟩ := r4 (by simp)
  go_upto_region 6 with (fail)
  obtain ⟨W5, hW5⟩ : ∃ W5, W5 = w4.alloc (.cells #[.int .i64 0, .int .i64 0] 27) := ⟨_, rfl⟩
  rw [← hW5]
  have g5 : Grew w4 W5 := by rw [hW5]; exact grew_alloc _ _
  have f5 : Blk W5 w4.heap.size 27 #[.int .i64 0, .int .i64 0] := by rw [hW5]; exact Blk.new _ _ _
  obtain ⟨e0, e1, -⟩ := cells_of f5
  obtain ⟨j0, -, -, j3, -, j5⟩ := fl_cells (hfl.grew g5) 0 (by simp)
  simp only [List.getElem_cons_zero, awP] at j0 j3 j5
  obtain ⟨ya, yn, yc, e9, hyn⟩ := bs_shape j5
  have hyn' : yn = 1 := hyn.out
  subst hyn'
  rw [e9] at j3
  have z1 : ro + 0 * 5 = ro := by omega
  have z2 : ro + 0 * 5 + 3 = ro + 3 := by omega
  rw [z1] at j0
  rw [z2] at j3
  clear z1 z2 hW5 f5 hV hfl r4 j5
  go_wp2
  go_ret
  exact ⟨rfl, ((G2.trans g3).trans g4).trans g5⟩
/-- append of a field to a row of the call's own; where the new row lies -/
theorem wpList_pushFr {W : World} {ops : Array Oper} {rest : List Oper} {o : Oper} {a : Act} {Q : Exit → Act → World → Prop} (hgd : o.guard = none) (s x : Operand)
    (ho : o.op = .call { callee := .builtin .append, args := #[s, x], argTypes := #[24, 24] })
    (base : Nat) (v : Value) (ps : List FFV) (hs : a.eval s = v) (hown : OwnF W base v ps) (xv : Value) (hx : a.eval x = xv) (p : FFV) (hsl : Sl W xv 1 5 (ffv p)) {l : List UInt8} (hp : Bs W p.2 l)
    (hlen : ps.length + 1 ≤ 1000000000) (hbase : base ≤ W.heap.size)
    (h : ∀ v' w', OwnF w' base v' (ps ++ [p]) → Below base W w' → W.grownBy w' v.ownBlock → (v'.ownBlock = v.ownBlock ∨ v'.ownBlock = some W.heap.size) → wpList Try.prog ops Q rest (a.put o.dst v') w') : wpList Try.prog ops Q (o :: rest) a W := by
  obtain ⟨i0, hi, hz0, hz1, hz2⟩ := info_parts info_field
  rcases hsl.shape with ⟨rfl, h0, h1⟩ | ⟨ad, cap, rfl, _, _, hl, hc⟩
  · cases h0
  · refine wpList_plain hgd fun K hK => ?_
    obtain ⟨v', w', hr, h2, h3, _, h5⟩ := run_append_own_at (P := Try.prog) W base 24 o.type 39 i0 (.agg #[.int .i64 0, .int .u8 0, .int .u64 0, .slice none 0 0, .int .i64 0]) 5 56 Try.underlying24 hi hz0 hz1 hz2 rfl (by decide) v ps.length _ hown ad 1 cap (ffv p) hl hc (ffv_one p hp) (by unfold maxLen; omega) (by omega) hbase
    unfold Oper.wp execOp
    simp only [ho, resolve, invoke, builtin, Sem.run_bind, Sem.run_pure, Result.andThen_ok, List.map_toArray, List.map_cons, List.map_nil, hs, hx, hr]
    exact hK _ _ (h v' w' (by rw [OwnF, List.length_append, List.flatMap_append]; simpa using h2) (grownBy_below h3 hown hbase) h3 h5)
theorem clampM_le (m : Int) : clampM m ≤ 16777216 := by
  unfold clampM
  split
  · omega
  split <;> omega
set_option maxRecDepth 100000 in
set_option maxHeartbeats 8000000 in
theorem wput_walk (A : List FFV) (v : Value) (room : Int) (w : World) (hb : FlR w v A ∧ ∀ x ∈ A, x.1.ok) : Calls Try.prog 12 #[v, .int .i64 room] w fun e w' => e = .returned (.bool true) ∧ Grew w w' := by
  obtain ⟨hA, hok⟩ := hb
  obtain ⟨a, c, rfl, hc1, hc2, -, h4⟩ := hA.1.open
  unfold maxLen at hc2
  have HA := Lib.hid hA
  have H4 := Lib.hid h4
  have HOK := Lib.hid hok
  clear hA h4 hok
  go_enter Try.func12, Try.ntmps12
  go_wp2_with fail
  refine (awakePut_any w).mono ?_
  rintro e w1 ⟨rfl, g1⟩
  by_cases hl : 20 < A.length
  · have hd : decide ((A.length : Int) > 20) = true := by simp; omega
    clear hl
    go_wp2
    go_ret
    exact ⟨rfl, g1⟩
  have hd : decide ((A.length : Int) > 20) = false := by simp; omega
  have hl20 : A.length ≤ 20 := by omega
  clear hl
  go_wp2_with fail
  refine (onew_any room w1).mono ?_
  rintro e w2 ⟨rfl, hO, g2⟩
  have hm := clampM_le room
  obtain ⟨m, hmm⟩ : ∃ m, m = clampM room := ⟨_, rfl⟩
  rw [← hmm] at hO hm
  obtain ⟨p, hp⟩ : ∃ p, p = w1.heap.size := ⟨_, rfl⟩
  rw [← hp] at hO ⊢
  have hpw : w.heap.size ≤ p := by have := g1.size; omega
  have HO := Lib.hid hO
  have G2 := g1.trans g2
  have hpz : p < w2.heap.size := (hO.own p rfl).2
  have HP := Lib.hid hp
  clear hO hp hmm
  go_wp2
  go_loopw [6, 7] (fun gv i wr => ∃ (k : Nat) (G : List FFV) (F : Nat → Prop) (cur : List UInt8), k ≤ A.length ∧ i = .int .i64 k ∧ OwnF wr p gv G ∧ (∀ g, gv.ownBlock = some g → ¬ F g) ∧ OutO p F wr p cur m ∧ G.length ≤ k ∧ Grew w wr ∧ p < wr.heap.size ∧
    RowKit.Hid (cur = (putsF 0 (G.map (·.1))).1 ∧ (putsF 0 (G.map (·.1))).2 = (0, 0) ∧ ∀ q ∈ G, (putF q.1).2 = 0 ∧ q ∈ A ∧ (fB q.1).length ≤ 200)) (fun _ i _ => A.length - (intOf i).toNat)
  case atStart => exact ⟨0, [], (· = p), [], Nat.zero_le _, rfl, World.ownsRow_nil _ _ _ _, (fun g h => by cases h), HO.out, Nat.zero_le _, G2, hpz, Lib.hid ⟨rfl, rfl, fun q h => by cases h⟩⟩
  case round =>
    obtain ⟨k, G, F, cur, hk, rfl, hG, hdj, hOk, hGl, hW, hpz2, hI⟩ := hrel
    obtain ⟨oa, oc, rfl, -⟩ := (Sl.of_own hG).open
    have HG := Lib.hid hG
    have HDJ := Lib.hid hdj
    have HOK2 := Lib.hid hOk
    clear hG hdj hOk
    by_cases hlt : k < A.length
    · obtain ⟨b, o, rfl, -⟩ := H4.out (by omega)
      obtain ⟨x0, x1, x2, x3, x4, x5⟩ := fl_cells (HA.out.grew hW) k hlt
      have hmem := List.getElem_mem hlt
      have hokk := HOK.out _ hmem
      obtain ⟨⟨X, xv⟩, hr⟩ : ∃ r, r = A[k] := ⟨_, rfl⟩
      rw [← hr] at x0 x1 x2 x3 x4 x5 hmem hokk
      simp only at x0 x1 x2 x3 x4 x5 hokk
      have hblt := x5.blk_lt
      have hlo := fun g hg hne => (show g < p from by
        have h9 := (HA.out.2 _ hmem).blk_lt g hg hne
        omega)
      obtain ⟨xa, xn, xc, rfl, hxn⟩ := bs_shape x5
      have hxn' := hxn.out
      have gb := grew_alloc wr (.cells #[.int .i64 X.1, .int .u8 (X.2.1 : Nat), .int .u64 (X.2.2.1 : Nat), .slice xa xn xc, .int .i64 X.2.2.2.2] 39)
      have gc := grew_alloc (wr.alloc (.cells #[.int .i64 X.1, .int .u8 (X.2.1 : Nat), .int .u64 (X.2.2.1 : Nat), .slice xa xn xc, .int .i64 X.2.2.2.2] 39)) (.cells #[.func (.func 44) #[] #[.pointer (some ⟨wr.heap.size, 0, none⟩)], .func (.func 46) #[] #[.pointer (some ⟨wr.heap.size, 0, none⟩)]] 76)
      have HX5 := Lib.hid x5
      have HMEM := Lib.hid hmem
      have z1 : (k : Int) < (A.length : Int) := by omega
      have z0 : (0 : Int) ≤ (k : Int) := by omega
      have HXN := Lib.hid hxn'
      clear hr hblt hxn
      by_cases e : 200 < xn
      · have q1 : decide ((xn : Int) > 200) = true := by simp; omega
        clear e hxn'
        go_wp2
        go_ret
        exact ⟨rfl, hW.trans gb⟩
      have q1 : decide ((xn : Int) > 200) = false := by simp; omega
      have hbl : (fB X).length ≤ 200 := by omega
      have hE : PutEnv (.slice xa xn xc) (fB X) wr.heap.size (wr.heap.size + 1) #[.int .i64 X.1, .int .u8 (X.2.1 : Nat), .int .u64 (X.2.2.1 : Nat), .slice xa xn xc, .int .i64 X.2.2.2.2] #[.func (.func 44) #[] #[.pointer (some ⟨wr.heap.size, 0, none⟩)], .func (.func 46) #[] #[.pointer (some ⟨wr.heap.size, 0, none⟩)]] 76 ((wr.alloc (.cells #[.int .i64 X.1, .int .u8 (X.2.1 : Nat), .int .u64 (X.2.2.1 : Nat), .slice xa xn xc, .int .i64 X.2.2.2.2] 39)).alloc (.cells #[.func (.func 44) #[] #[.pointer (some ⟨wr.heap.size, 0, none⟩)], .func (.func 46) #[] #[.pointer (some ⟨wr.heap.size, 0, none⟩)]] 76)) F :=
        ⟨(x5.grew gb).grew gc, (Blk.new _ _ _).alloc _, Blk.at (by simp), fun g hg hne => ⟨by have := hlo g hg (by simpa [bv] using hne); simp; omega, fun hf => by have := hlo g hg (by simpa [bv] using hne); have := (HOK2.out.own g hf).1; omega⟩, fun hf => by have := (HOK2.out.own _ hf).2; omega, fun hf => by have := (HOK2.out.own _ hf).2; omega⟩
      have ka := putall_any p F cur p m _ _ _ X _ _ hokk (by omega) ((HOK2.out.grew gb).grew gc) hE
      have hcm : cur.length ≤ m := HOK2.out.choose_spec.2.2.1
      obtain ⟨R, hR⟩ : ∃ R, R = (if (putF X).2 ≠ 0 then (cur, (putF X).2) else putR cur (putF X).1 m) := ⟨_, rfl⟩
      rw [← hR] at ka
      have HR := Lib.hid hR
      have KA := Lib.hid ka
      have hcs := Blk.new wr 39 #[.int .i64 X.1, .int .u8 (X.2.1 : Nat), .int .u64 (X.2.2.1 : Nat), .slice xa xn xc, .int .i64 X.2.2.2.2]
      have hnF : ¬ F wr.heap.size := fun hf => by have := (HOK2.out.own _ hf).2; omega
      clear ka hE e hxn' hR hlo hmem
      go_wp2_with fail
      refine KA.out.mono ?_
      rintro e w4 ⟨rfl, F4, hO4, hF4, hN4⟩
      have G4 : Grew w w4 := hF4.grew ((hW.trans gb).trans gc) (fun i hi => by have := (HOK2.out.own i hi).1; omega)
      have HG4 := Lib.hid (own_fr (own_grew (own_grew HG.out gb) gc) hF4 (fun g hg => HDJ.out g hg))
      have hb4 := (hcs.alloc (.cells #[.func (.func 44) #[] #[.pointer (some ⟨wr.heap.size, 0, none⟩)], .func (.func 46) #[] #[.pointer (some ⟨wr.heap.size, 0, none⟩)]] 76)).fr hF4 hnF
      have hz4 := hF4.size
      have hDJ4 : ∀ g, (Value.slice oa G.length oc).ownBlock = some g → ¬ F4 g := fun g hg hf => by
        rcases hN4 g hf with h | h
        · exact HDJ.out g hg h
        · have := (own_lt HG.out g hg).2; simp at h; omega
      have hz5 : p < w4.heap.size := by simp at hz4; omega
      have HO4 := Lib.hid hO4
      clear x0 x1 x2 x3 x4 x5 hcs hnF hO4
      obtain ⟨p0, p1, p2, p3, p4, -⟩ := cells5 hb4
      by_cases he : R.2 = 0
      · have hne : ((R.2 : Int) == 0) = true := by simp; omega
        have hRR := HR.out
        have hput : (putF X).2 = 0 ∧ R.1 = cur ++ (putF X).1 := by
          by_cases h : (putF X).2 ≠ 0
          · rw [if_pos h] at hRR; rw [hRR] at he; exact absurd he h
          · rw [if_neg h] at hRR
            unfold putR at hRR
            by_cases h2 : m < cur.length + (putF X).1.length
            · rw [if_pos h2] at hRR; rw [hRR] at he; simp at he
            · rw [if_neg h2] at hRR; rw [hRR]; exact ⟨by omega, rfl⟩
        obtain ⟨i1, i2, i3⟩ := hI.out
        obtain ⟨n1, n2⟩ := putsF_snoc (G.map (·.1)) 0 X (fun y hy => by obtain ⟨q, hq, rfl⟩ := List.mem_map.1 hy; exact (i3 q hq).1) hput.1
        have HI2 := Lib.hid (show R.1 = (putsF 0 ((G ++ [((X, Value.slice xa xn xc) : FFV)]).map (·.1))).1 ∧ (putsF 0 ((G ++ [((X, Value.slice xa xn xc) : FFV)]).map (·.1))).2 = (0, 0) ∧ ∀ q ∈ G ++ [((X, Value.slice xa xn xc) : FFV)], (putF q.1).2 = 0 ∧ q ∈ A ∧ (fB q.1).length ≤ 200 from by
          rw [List.map_append]
          refine ⟨by rw [hput.2, i1]; exact n1.symm, n2, fun q hq => ?_⟩
          rcases List.mem_append.1 hq with hq | hq
          · exact i3 q hq
          · obtain rfl := List.mem_singleton.1 hq
            exact ⟨hput.1, HMEM.out, hbl⟩)
        have hsl : Sl (w4.alloc (.cells #[.int .i64 X.1, .int .u8 (X.2.1 : Nat), .int .u64 (X.2.2.1 : Nat), .slice xa xn xc, .int .i64 X.2.2.2.2] 39)) (.slice (some ⟨w4.heap.size, 0, none⟩) 1 1) 1 5 (ffv (X, .slice xa xn xc)) := Sl.lit w4 39 (0, 0) #[.int .i64 X.1, .int .u8 (X.2.1 : Nat), .int .u64 (X.2.2.1 : Nat), .slice xa xn xc, .int .i64 X.2.2.2.2] 1 5 rfl (by unfold maxLen; omega)
        have g5 := grew_alloc w4 (.cells #[.int .i64 X.1, .int .u8 (X.2.1 : Nat), .int .u64 (X.2.2.1 : Nat), .slice xa xn xc, .int .i64 X.2.2.2.2] 39)
        have HSL := Lib.hid hsl
        have HG5 := Lib.hid (own_grew HG4.out g5)
        have hbx : Bs w4 (.slice xa xn xc) (fB X) := (HA.out.2 _ HMEM.out).grew G4
        have HBX := Lib.hid (hbx.grew g5)
        clear he hRR hput i1 i2 i3 n1 n2 hsl hbx
        go_wp2_with (at_builtin; refine wpList_pushFr rfl _ _ rfl p (.slice oa G.length oc) G rfl HG5.out _ rfl (X, .slice xa xn xc) HSL.out HBX.out (by omega) (by simp; omega) ?_; intro v' w5 hown5 hB5 hgb hnew)
        have hO5 : OutO p F4 w5 p R.1 m := (HO4.out.grew g5).fr (Fr.of_grown (S := fun k => (Value.slice oa G.length oc).ownBlock = some k) hgb (fun k e => e)) (fun k hk hs => hDJ4 k hs hk)
        refine ⟨⟨k + 1, G ++ [(X, .slice xa xn xc)], F4, R.1, by omega, by go_num, hown5, fun g hg hf => ?_, hO5, by simp; omega, Below.trans (G4.trans g5) (hB5.mono hpw), by have := hB5.size; simp at this; omega, HI2⟩, ?_⟩
        · rcases hnew with h | h
          · exact hDJ4 g (by rw [← h]; exact hg) hf
          · have := (HO4.out.own g hf).2
            rw [h] at hg; simp at hg; omega
        · simp [intOf]; omega
      · have hne : ((R.2 : Int) == 0) = false := by simp; omega
        have hRR := HR.out
        have hput : R.1 = cur := by
          by_cases h : (putF X).2 ≠ 0
          · rw [if_pos h] at hRR; rw [hRR]
          · rw [if_neg h] at hRR
            unfold putR at hRR
            by_cases h2 : m < cur.length + (putF X).1.length
            · rw [if_pos h2] at hRR; rw [hRR]
            · rw [if_neg h2] at hRR; rw [hRR] at he; simp at he
        have HO5 := Lib.hid (show OutO p F4 w4 p cur m by rw [← hput]; exact HO4.out)
        clear he hRR hput
        go_wp2
        go_roundw
        case rel => exact ⟨k + 1, G, F4, cur, by omega, by go_num, HG4.out, hDJ4, HO5.out, by omega, G4, hz5, hI⟩
        case measure => simp [intOf]; omega
    · obtain rfl : k = A.length := by omega
      obtain ⟨i1, i2, i3⟩ := hI.out
      have hfl : FlR wr _ G := ⟨Sl.of_own HG.out, fun q hq => (HA.out.2 q (i3 q hq).2.1).grew hW⟩
      have kp := skPut_any G _ wr hfl (fun q hq => ⟨HOK.out q (i3 q hq).2.1, by have := (i3 q hq).2.2; omega⟩) (by omega)
      rw [← i1, show (putsF 0 (G.map (·.1))).2.1 = 0 from by rw [i2], show (putsF 0 (G.map (·.1))).2.2 = 0 from by rw [i2]] at kp
      have KP := Lib.hid kp
      clear i1 i2 i3 hfl kp
      go_wp2_with fail
      refine KP.out.mono ?_
      rintro e w4 ⟨v4, rfl, ho4, g4⟩
      obtain ⟨a4, n4, c4, rfl, hn4⟩ := bs_shape (Sl.of_own ho4)
      have g5 := grew_alloc w4 (.cells #[.int .i64 0, .int .i64 0] 27)
      have HB4 := Lib.hid ((Sl.of_own ho4).grew g5)
      have HO4 := Lib.hid ((HOK2.out.grew g4).grew g5)
      have G5 := (hW.trans g4).trans g5
      clear ho4
      go_wp2_with fail
      refine (oout_any _ _ _ _ _ _ HO4.out).mono ?_
      rintro e w6 ⟨v6, rfl, ho6, g6⟩
      obtain ⟨a6, n6, c6, rfl, hn6⟩ := bs_shape (Sl.of_own ho6)
      have KS := Lib.hid (same_any cur cur _ _ w6 (Sl.of_own ho6) (HB4.out.grew g6))
      clear ho6
      go_wp2_with fail
      refine KS.out.mono ?_
      rw [beq_self_eq_true]
      rintro e w7 ⟨rfl, d7⟩
      go_wp2
      go_ret
      exact ⟨rfl, (G5.trans g6).trans d7.grew⟩
end Go.Proofs.Ytgoaijpckckdnaa
