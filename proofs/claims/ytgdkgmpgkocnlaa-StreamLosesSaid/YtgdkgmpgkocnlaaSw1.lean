/- The law StreamLoses returns true: its walk. -/
import Derived.Test.YtgdkgmpgkocnlaaWi2
import Derived.Test.YtgdkgmpgkocnlaaSt4
import Derived.Deep.CutRange
import Derived.Deep.CutBlock
namespace Go.Proofs.Ytgdkgmpgkocnlaa
open Go Go.RowKit Go.Shelf

def stepQS (K : Act → World → Prop) : Exit → Act → World → Prop
  | .normal, a, w => K a w
  | _, _, _ => False
theorem wp_monoQS {P : Program} {o : Oper} {a : Act} {w : World} {K : Act → World → Prop} {Q Q' : Exit → Act → World → Prop} (hQ : ∀ c a w, Q (.panic c) a w → Q' (.panic c) a w) (hl : LetsOut Q → LetsOut Q') (hh : o.wp P a w K Q) : o.wp P a w K Q' := by
  unfold Oper.wp at *
  generalize (execOp a.eval o).run P w = r at *
  cases r with
  | ok n w' =>
    cases n <;> simp only [Oper.upon] at hh ⊢ <;>
      first
        | exact hh
        | exact Calls.mono hh (fun e w'' he => by cases e <;> first | exact he | exact hQ _ _ _ he | exact hl he)
  | halt x w' => cases x <;> simp only [Oper.upon] at hh ⊢ <;> first | exact hh | exact hQ _ _ _ hh
theorem step_of_listS {P : Program} {ops : Array Oper} {Q : Exit → Act → World → Prop} {K : Act → World → Prop} {o : Oper} {a : Act} {w : World} (h : wpList P ops (stepQS K) [o] a w) :
    if Region.wanted o (yielded ops a.tmps) = true then Oper.wp P o a w K Q else K (a.put o.dst undef) w := by
  unfold wpList at h
  split at h
  · rename_i hw
    rw [if_pos hw]
    rcases h with h | ⟨-, _, _, h⟩
    · exact wp_monoQS (fun _ _ _ h => h.elim) (fun ⟨_, _, h⟩ => h.elim) h
    · exact h.elim
  · rename_i hw
    rw [if_neg hw]
    exact h
/-- what stands in a slot behind a region: frames, by their names -/
def SlR (D : List Frm) (w0 : World) (x : Value) (wx : World) : Prop := ∃ B : List FA, FsR wx x B ∧ B.map (·.1) = D ∧ Grew w0 wx
abbrev OwnFr (W : World) (base : Nat) (v : Value) (A : List FA) : Prop := W.ownsRow base 29 2 v A.length (A.flatMap fav)
theorem wpList_catFrG {W : World} {ops : Array Oper} {rest : List Oper} {o : Oper} {a : Act} {Q : Exit → Act → World → Prop} (hgd : o.guard = none) (s x : Operand)
    (ho : o.op = .call { callee := .builtin .append, args := #[s, x], argTypes := #[22, 22] })
    (base : Nat) (v : Value) (A B : List FA) (hs : a.eval s = v) (hown : OwnFr W base v A) (xv : Value) (hx : a.eval x = xv) (hB : FsR W xv B)
    (hlen : A.length + B.length ≤ 1000000000) (hbase : base ≤ W.heap.size)
    (h : ∀ v' w', OwnFr w' base v' (A ++ B) → Below base W w' → W.grownBy w' v.ownBlock → wpList Try.prog ops Q rest (a.put o.dst v') w') : wpList Try.prog ops Q (o :: rest) a W := by
  obtain ⟨i0, hi, hz0, hz1, hz2⟩ := info_parts info_frm
  refine wpList_app hgd s x 22 ho base 29 i0 (.agg #[.int .u8 0, .slice none 0 0]) 2 32 Try.underlying22 hi hz0 hz1 hz2 rfl (by decide) v A.length _ hs hown xv B.length (B.flatMap fav) hx hB.1 (fun u hu => ?_) (by unfold maxLen; omega) (by omega) hbase
    fun v' w' h1 h2 => h v' w' (by unfold OwnFr; rw [List.length_append, List.flatMap_append]; exact h1) (grownBy_below h2 hown hbase) h2
  obtain ⟨y, hy, hu2⟩ := List.mem_flatMap.1 hu
  exact fav_one y (hB.2 y hy) u hu2
theorem fsr_one {W : World} {q : Nat} {f : Frm} {fv : Value} (h : Blk W q 29 #[.int .u8 (f.1.toNat : Int), fv]) (hb : Bs W fv f.2) : FsR W (.slice (some ⟨q, 0, none⟩) 1 1) [(f, fv)] := by
  refine ⟨⟨rfl, some ⟨q, 0, none⟩, 1, rfl, Nat.le_refl _, by unfold maxLen; omega, (fun e => by cases e), ?_⟩, fun x hx => by rw [List.mem_singleton.1 hx]; exact hb⟩
  intro ad e j u hu
  cases e
  rw [Addr.add_lit, Nat.zero_add, h.cell]
  rcases j with _ | _ | j
  · simpa [fav] using hu
  · simpa [fav] using hu
  · simp [fav] at hu
set_option maxRecDepth 100000 in
set_option maxHeartbeats 8000000 in
theorem sloses_walk (A : List FA) (wh tq : Nat) (kind : Int) (v : Value) (w : World) (h : FsR w v A) (hwh : wh < 256) (hto : tq < 256) :
    Calls Try.prog 3 #[v, .int .u8 (wh : Nat), .int .u8 (tq : Nat), .int .i64 kind] w fun e w' => e = .returned (.bool true) ∧ Grew w w' := by
  obtain ⟨a, n', c, rfl, hn, h1, h2⟩ := h.open
  subst hn
  have HA := Lib.hid h
  have KFEW := Lib.hid (fun W (g : Grew w W) => few_any A _ W (h.grew g))
  clear h
  by_cases h0 : A.length = 0
  · have hz : ((A.length : Int) == 0) = true := by rw [h0]; rfl
    clear h0
    go_enter Try.func3, Try.ntmps3
    go_wp2_with fail
    refine (live16_any _).mono ?_
    rintro e w1 ⟨rfl, g1⟩
    go_wp2
    go_ret
    exact ⟨rfl, g1⟩
  have hz : ((A.length : Int) == 0) = false := by rw [beq_eq_false_iff_ne]; omega
  by_cases hfew : fewL (A.map (·.1)) = true
  case neg =>
    have hf : fewL (A.map (·.1)) = false := by simpa using hfew
    rw [hf] at KFEW
    clear hfew hf h0
    go_enter Try.func3, Try.ntmps3
    go_wp2_with fail
    refine (live16_any _).mono ?_
    rintro e w1 ⟨rfl, g1⟩
    go_wp2_with fail
    refine (KFEW.out _ g1).mono ?_
    rintro e w2 ⟨rfl, rfl⟩
    go_wp2
    go_ret
    exact ⟨rfl, g1⟩
  rw [hfew] at KFEW
  have hall : ∀ f ∈ A.map (·.1), f.2.length ≤ 300 := by
    intro f hm
    have := (Bool.and_eq_true_iff.1 hfew).2
    have := List.all_eq_true.1 this f hm
    simpa using this
  have hln : A.length ≤ 12 := by have := (Bool.and_eq_true_iff.1 hfew).1; simpa using this
  have HALL := Lib.hid hall
  have hAp : 0 < A.length := by omega
  clear hfew hall h0
  go_enter Try.func3, Try.ntmps3
  go_wp2_with fail
  refine (live16_any _).mono ?_
  rintro e w1 ⟨rfl, g1⟩
  go_wp2_with fail
  refine (KFEW.out _ g1).mono ?_
  rintro e w2 ⟨rfl, rfl⟩
  by_cases k1 : kind < 2
  · go_wp2
    go_ret
    exact ⟨rfl, g1⟩
  by_cases k2 : 5 < kind
  · go_wp2
    go_ret
    exact ⟨rfl, g1⟩
  by_cases k3 : kind = 4
  · subst k3
    go_wp2
    go_ret
    exact ⟨rfl, g1⟩
  have k4 : (kind == 4) = false := by rw [beq_eq_false_iff_ne]; exact k3
  have hkind : kind = 2 ∨ kind = 3 ∨ kind = 5 := by omega
  have HKD := Lib.hid hkind
  have hkm : wh % A.length < A.length := Nat.mod_lt _ hAp
  have hmod : Int.tmod (wh : Int) (A.length : Int) = ((wh % A.length : Nat) : Int) := by
    rw [Int.tmod_eq_emod_of_nonneg (by omega)]; rfl
  obtain ⟨k, hkk⟩ : ∃ k, k = wh % A.length := ⟨_, rfl⟩
  rw [← hkk] at hkm hmod
  have G1 := g1
  clear hkk hkind k3
  have hsz : ¬ ((A.length : Int) = 0) := by omega
  have zk0 : (0 : Int) ≤ (k : Int) := by omega
  have zk1 : (k : Int) < (A.length : Int) := by omega
  have zk2 : (k : Int) ≤ (A.length : Int) := by omega
  have zk3 : (k : Int) ≤ (c : Int) := by omega
  have hall8 : ∀ f ∈ A.map (·.1), f.2.length ≤ 8192 := fun f hf => by have := HALL.out f hf; omega
  have hjf := fjoin_few (A.map (·.1)) HALL.out
  rw [List.length_map] at hjf
  have HALL8 := Lib.hid hall8
  have hkl : (A.take k).length = k := by rw [List.length_take]; omega
  have kj := fun W (g : Grew w W) => r14join8_any (A.take k) _ W ((HA.out.take (by omega : k ≤ A.length)).grew g) (fun f hf => HALL8.out f (by rw [List.map_take] at hf; exact List.mem_of_mem_take hf)) (by omega)
  rw [List.map_take] at kj
  have KJ := Lib.hid kj
  obtain ⟨b, o, rfl, hcl⟩ := (HA.out.grew G1).cells hAp
  obtain ⟨x0, x1, x2⟩ := hcl k hkm
  have hfl := HALL.out A[k].1 (List.mem_map.2 ⟨_, List.getElem_mem hkm, rfl⟩)
  have hfk : (A.map (·.1))[k]'(by rw [List.length_map]; exact hkm) = A[k].1 := by simp
  obtain ⟨⟨f, fv⟩, hfx⟩ : ∃ r, r = A[k] := ⟨_, rfl⟩
  rw [← hfx] at x0 x1 x2 hfl hfk
  simp only at x0 x1 x2 hfl hfk
  obtain ⟨xa, xc, rfl⟩ := bs_len x2
  have X0 := Lib.hid x0
  have X1 := Lib.hid x1
  have X2 := Lib.hid x2
  have HFK := Lib.hid hfk
  have HFX := Lib.hid hfx
  clear hall8 kj hkl hcl x2 hfk hfx hjf
  go_upto_region 6 with (fail)
  refine wp_region_held_drew (S := fun V => Grew w1 V) (by kernel_rfl) (Drew.grew ⟨1, rfl⟩) (fun hHeld => ?_)
  refine wpAnyH_take (i := 0) (oi := _) (v := ?_) rfl (by kernel_rfl) (by kernel_rfl) (by kernel_rfl) (fun _ _ _ h => h) (Or.inl ⟨by rfl, ?_⟩) (by assumption) ?_
  rotate_left
  · (intro W hW; go_simp; try with_reducible rfl)
  (try simp only [Act.put, List.setIfInBounds_toArray])
  refine wpAnyH_take (i := 1) (oi := _) (v := ?_) rfl (by kernel_rfl) (by kernel_rfl) (by kernel_rfl) (fun _ _ _ h => h) (Or.inl ⟨by rfl, ?_⟩) (by assumption) ?_
  rotate_left
  · (intro W hW; go_simp; try with_reducible rfl)
  (try simp only [Act.put])
  refine wpAnyH_take (i := 2) (oi := _) (v := ?_) rfl (by kernel_rfl) (by kernel_rfl) (by kernel_rfl) (fun _ _ _ h => h) (Or.inl ⟨by rfl, ?_⟩) (by assumption) ?_
  rotate_left
  · (intro W hW; go_simp; try with_reducible rfl)
  (try simp only [Act.put])
  refine wpAnyH_take (i := 5) (oi := _) (v := ?_) rfl (by kernel_rfl) (by kernel_rfl) (by kernel_rfl) (fun _ _ _ h => h) (Or.inl ⟨by rfl, ?_⟩) (by assumption) ?_
  rotate_left
  · (intro W hW; go_simp; try with_reducible rfl)
  (try simp only [Act.put])
  refine wpAnyH_take (i := 6) (oi := _) (v := ?_) rfl (by kernel_rfl) (by kernel_rfl) (by kernel_rfl) (fun _ _ _ h => h) (Or.inl ⟨by rfl, ?_⟩) (by assumption) ?_
  rotate_left
  · (intro W hW; go_simp; try with_reducible rfl)
  (try simp only [Act.put])
  refine wpAnyH_take (i := 7) (oi := _) (v := ?_) rfl (by kernel_rfl) (by kernel_rfl) (by kernel_rfl) (fun _ _ _ h => h) (Or.inl ⟨by rfl, ?_⟩) (by assumption) ?_
  rotate_left
  · (intro W hW; go_simp; try with_reducible rfl)
  (try simp only [Act.put])
  refine wpAnyH_take (i := 8) (oi := _) (v := ?_) rfl (by kernel_rfl) (by kernel_rfl) (by kernel_rfl) (fun _ _ _ h => h) (Or.inl ⟨by rfl, ?_⟩) (by assumption) ?_
  rotate_left
  · (intro W hW; have y0 := below_ext hW _ _ X0.out; have y1 := below_ext hW _ _ X1.out; go_simp; try with_reducible rfl)
  (try simp only [Act.put])
  refine wpAnyH_ready (rs := [3]) (by kernel_rfl) (by simp) ?_
  refine AllReadyH.cons (o := _) rfl (fun K hK => ?_) AllReadyH.nil
  go_simp
  refine (KJ.out _ (G1.trans hHeld)).mono ?_
  rintro e w5 ⟨v5, rfl, o5, g5⟩
  obtain ⟨a5, c5, rfl⟩ := bs_len (Sl.of_own o5)
  obtain ⟨N, hN⟩ : ∃ N, N = (fjoin ((A.map (·.1)).take k)).length := ⟨_, rfl⟩
  rw [← hN]
  have HN := Lib.hid hN
  have H5 := Lib.hid (hHeld.trans g5)
  clear o5 g5 hN hHeld
  go_simp
  refine hK.out _ _ H5.out (fun _ => ?_)
  clear hK K
  (try simp only [Act.put, List.setIfInBounds_toArray, List.set_cons_zero, List.set_cons_succ])
  refine wpAnyH_take (i := 4) (oi := _) (v := ?_) rfl (by kernel_rfl) (by kernel_rfl) (by kernel_rfl) (fun _ _ _ h => h) (Or.inl ⟨by rfl, ?_⟩) H5.out ?_
  rotate_left
  · (intro W hW; go_simp; try with_reducible rfl)
  (try simp only [Act.put, List.setIfInBounds_toArray])
  refine wpAnyH_ready (rs := [9]) (by kernel_rfl) (by simp) ?_
  refine AllReadyH.cons (o := _) rfl (fun K hK => ?_) AllReadyH.nil
  go_simp
  refine (r13put_any f _ _ (X2.out.grew H5.out) (by omega)).mono ?_
  rintro e w6 ⟨v6, rfl, o6, g6⟩
  obtain ⟨a6, c6, rfl⟩ := bs_len (Sl.of_own o6)
  obtain ⟨S, hS⟩ : ∃ S, S = (fput f).length := ⟨_, rfl⟩
  rw [← hS]
  have HS := Lib.hid hS
  have H6 := Lib.hid (H5.out.trans g6)
  clear o6 g6 hS H5
  go_simp
  refine hK.out _ _ H6.out (fun _ => ?_)
  clear hK K
  (try simp only [Act.put, List.setIfInBounds_toArray, List.set_cons_zero, List.set_cons_succ])
  refine wpAnyH_take (i := 10) (oi := _) (v := ?_) rfl (by kernel_rfl) (by kernel_rfl) (by kernel_rfl) (fun _ _ _ h => h) (Or.inl ⟨by rfl, ?_⟩) H6.out ?_
  rotate_left
  · (intro W hW; go_simp; try with_reducible rfl)
  (try simp only [Act.put, List.setIfInBounds_toArray])
  refine wpAnyH_tail 11 rfl (by kernel_rfl) (by kernel_rfl) (fun q => H6.out.trans (Drew.grew ⟨q, rfl⟩)) ?_
  simp only [List.drop_succ_cons, List.drop_zero]
  repeat (quiet_step (fail))
  refine wpQuiet_nil ?_
  rintro _ ⟨nq, rfl⟩
  have G7 := Lib.hid (H6.out.trans (Drew.grew ⟨nq, rfl⟩))
  generalize w6.drewN nq = w7 at G7 ⊢
  clear H6
  have hNle : N ≤ 3708 := by
    have h1 := fjoin_few ((A.map (·.1)).take k) (fun f hf => HALL.out f (List.mem_of_mem_take hf))
    have h2 : ((A.map (·.1)).take k).length ≤ 12 := by rw [List.length_take, List.length_map]; omega
    rw [HN.out]; omega
  have hSl : S ≤ 309 := by rw [HS.out, fput_length]; omega
  have GW7 := Lib.hid (G1.trans G7.out)
  have zk5 : (k : Int) + 1 ≤ (A.length : Int) := by omega
  have zk9 : (0 : Int) ≤ (k : Int) + 1 := by omega
  have zka : (k : Int) ≤ (k : Int) + 1 := by omega
  have zk6 : (k : Int) + 1 ≤ (c : Int) := by omega
  have zk7 : ((k : Int) + 1).toNat = k + 1 := by omega
  have zk8 : IntKind.i64.wrap ((k : Int) + 1) = (k : Int) + 1 := by rw [IntKind.wrap_i64]; omega
  go_upto_region 7 with (fail)
  go_cut [12] from 57 to 66 (fun x12 wx => SlR (restF (A.map (·.1)) k) w7 x12 wx)
  case first =>
    have hcc : c = k + 1 ∨ ¬ c = k + 1 := by omega
    rcases hcc with hck | hck
    · obtain rfl : c = k + 1 := hck
      refine wp_region_held_drew (S := fun _ => True) (by kernel_rfl) trivial (fun _ => ?_)
      refine wpAnyH_take (i := 1) (oi := _) (v := ?_) rfl (by kernel_rfl) (by kernel_rfl) (by kernel_rfl) (fun _ _ _ h => h) (Or.inl ⟨by rfl, ?_⟩) trivial ?_
      rotate_left
      · (intro W hW; go_simp; try with_reducible rfl)
      (try simp only [Act.put, List.setIfInBounds_toArray])
      refine wpAnyH_take (i := 2) (oi := _) (v := ?_) rfl (by kernel_rfl) (by kernel_rfl) (by kernel_rfl) (fun _ _ _ h => h) (Or.inl ⟨by rfl, ?_⟩) trivial ?_
      rotate_left
      · (intro W hW; go_simp; try with_reducible rfl)
      (try simp only [Act.put])
      refine wpAnyH_take (i := 3) (oi := _) (v := ?_) rfl (by kernel_rfl) (by kernel_rfl) (by kernel_rfl) (fun _ _ _ h => h) (Or.inl ⟨by rfl, ?_⟩) trivial ?_
      rotate_left
      · (intro W hW; go_simp; try with_reducible rfl)
      (try simp only [Act.put])
      refine wpAnyH_take (i := 5) (oi := _) (v := ?_) rfl (by kernel_rfl) (by kernel_rfl) (by kernel_rfl) (fun _ _ _ h => h) (Or.inl ⟨by rfl, ?_⟩) trivial ?_
      rotate_left
      · (intro W hW; go_simp; try with_reducible rfl)
      (try simp only [Act.put])
      refine wpAnyH_take (i := 6) (oi := _) (v := ?_) rfl (by kernel_rfl) (by kernel_rfl) (by kernel_rfl) (fun _ _ _ h => h) (Or.inl ⟨by rfl, ?_⟩) trivial ?_
      rotate_left
      · (intro W hW; go_simp; try with_reducible rfl)
      (try simp only [Act.put])
      refine wpAnyH_take (i := 7) (oi := _) (v := ?_) rfl (by kernel_rfl) (by kernel_rfl) (by kernel_rfl) (fun _ _ _ h => h) (Or.inl ⟨by rfl, ?_⟩) trivial ?_
      rotate_left
      · (intro W hW; go_simp; try with_reducible rfl)
      (try simp only [Act.put])
      refine wpAnyH_take (i := 8) (oi := _) (v := ?_) rfl (by kernel_rfl) (by kernel_rfl) (by kernel_rfl) (fun _ _ _ h => h) (Or.inl ⟨by rfl, ?_⟩) trivial ?_
      rotate_left
      · (intro W hW; go_simp; try with_reducible rfl)
      (try simp only [Act.put])
      refine wpAnyH_ready (rs := [0]) (by kernel_rfl) (by simp) ?_
      refine AllReadyH.cons (o := _) rfl (fun K hK => ?_) AllReadyH.nil
      go_simp
      refine hK.out _ _ trivial (fun _ => ?_)
      clear hK K
      (try simp only [Act.put, List.setIfInBounds_toArray, List.set_cons_zero, List.set_cons_succ])
      refine wpAnyH_ready (rs := [4]) (by kernel_rfl) (by simp) ?_
      refine AllReadyH.cons (o := _) rfl (fun K hK => ?_) AllReadyH.nil
      refine step_of_listS ?_
      have gd : Grew w7 (w7.drew.alloc (.cells #[] 29)) := (Drew.grew ⟨1, rfl⟩ : Grew w7 w7.drew).trans (grew_alloc _ _)
      refine wpList_catFr rfl _ _ rfl w7.heap.size (.slice (some ⟨w7.heap.size, 0, none⟩) 0 0) [] (A.take k) rfl (World.ownsRow_lit w7.drew #[] 0 (Nat.le_refl _) (Nat.zero_le _) rfl) _ rfl ((HA.out.take (show k ≤ A.length by omega)).grew (GW7.out.trans gd)) (by simp; omega) gd.size ?_
      intro v10 w10 h10 hB10
      have G10 : Grew w7 w10 := Below.trans gd hB10
      have H10 := Lib.hid h10
      clear h10
      refine hK.out _ _ trivial (fun _ => ?_)
      clear hK K
      (try simp only [Act.put, List.setIfInBounds_toArray])
      refine wpAnyH_ready (rs := [9]) (by kernel_rfl) (by simp) ?_
      refine AllReadyH.cons (o := _) rfl (fun K hK => ?_) AllReadyH.nil
      refine step_of_listS ?_
      refine wpList_catFr rfl _ _ rfl w7.heap.size v10 ([] ++ A.take k) (A.drop (k + 1)) rfl H10.out _ rfl ((HA.out.drop (m := k + 1) (by omega) _ (by first | exact .inr rfl | exact .inl ⟨by omega, by rw [Nat.sub_self]; rfl⟩ | exact .inl ⟨by omega, by rw [Nat.sub_self, show A.length - (k + 1) = 0 by omega]; rfl⟩)).grew (GW7.out.trans G10)) (by simp; omega) G10.size ?_
      intro v11 w11 h11 hB11
      have G11 : Grew w7 w11 := Below.trans G10 hB11
      have hbf : SlR (restF (A.map (·.1)) k) w7 v11 w11 := by
        refine ⟨[] ++ A.take k ++ A.drop (k + 1), ⟨Sl.of_own h11, fun x hx => ?_⟩, ?_, G11⟩
        · refine (HA.out.2 x ?_).grew (GW7.out.trans G11)
          rw [List.nil_append] at hx
          rcases List.mem_append.1 hx with hx | hx
          · exact List.mem_of_mem_take hx
          · exact List.mem_of_mem_drop hx
        · rw [List.nil_append, List.map_append, List.map_take, List.map_drop]; rfl
      have HBF := Lib.hid hbf
      clear h11 hbf
      refine hK.out _ _ trivial (fun _ => ?_)
      clear hK K
      (try simp only [Act.put])
      refine wpAnyH_tail 10 rfl (by kernel_rfl) (by kernel_rfl) (fun _ => trivial) ?_
      simp only [List.drop_succ_cons, List.drop_zero]
      repeat (quiet_step (fail))
      refine wpQuiet_nil ?_
      rintro _ ⟨nq, rfl⟩
      have gq : Grew w11 (w11.drewN nq) := Drew.grew ⟨nq, rfl⟩
      go_wp2_with fail
      go_meet
      obtain ⟨Bx, q1, q2, q3⟩ := HBF.out
      exact ⟨Bx, q1.grew gq, q2, q3.trans gq⟩
    · refine wp_region_held_drew (S := fun _ => True) (by kernel_rfl) trivial (fun _ => ?_)
      refine wpAnyH_take (i := 1) (oi := _) (v := ?_) rfl (by kernel_rfl) (by kernel_rfl) (by kernel_rfl) (fun _ _ _ h => h) (Or.inl ⟨by rfl, ?_⟩) trivial ?_
      rotate_left
      · (intro W hW; go_simp; try with_reducible rfl)
      (try simp only [Act.put, List.setIfInBounds_toArray])
      refine wpAnyH_take (i := 2) (oi := _) (v := ?_) rfl (by kernel_rfl) (by kernel_rfl) (by kernel_rfl) (fun _ _ _ h => h) (Or.inl ⟨by rfl, ?_⟩) trivial ?_
      rotate_left
      · (intro W hW; go_simp; try with_reducible rfl)
      (try simp only [Act.put])
      refine wpAnyH_take (i := 3) (oi := _) (v := ?_) rfl (by kernel_rfl) (by kernel_rfl) (by kernel_rfl) (fun _ _ _ h => h) (Or.inl ⟨by rfl, ?_⟩) trivial ?_
      rotate_left
      · (intro W hW; go_simp; try with_reducible rfl)
      (try simp only [Act.put])
      refine wpAnyH_take (i := 5) (oi := _) (v := ?_) rfl (by kernel_rfl) (by kernel_rfl) (by kernel_rfl) (fun _ _ _ h => h) (Or.inl ⟨by rfl, ?_⟩) trivial ?_
      rotate_left
      · (intro W hW; go_simp; try with_reducible rfl)
      (try simp only [Act.put])
      refine wpAnyH_take (i := 6) (oi := _) (v := ?_) rfl (by kernel_rfl) (by kernel_rfl) (by kernel_rfl) (fun _ _ _ h => h) (Or.inl ⟨by rfl, ?_⟩) trivial ?_
      rotate_left
      · (intro W hW; go_simp; try with_reducible rfl)
      (try simp only [Act.put])
      refine wpAnyH_take (i := 7) (oi := _) (v := ?_) rfl (by kernel_rfl) (by kernel_rfl) (by kernel_rfl) (fun _ _ _ h => h) (Or.inl ⟨by rfl, ?_⟩) trivial ?_
      rotate_left
      · (intro W hW; go_simp; try with_reducible rfl)
      (try simp only [Act.put])
      refine wpAnyH_take (i := 8) (oi := _) (v := ?_) rfl (by kernel_rfl) (by kernel_rfl) (by kernel_rfl) (fun _ _ _ h => h) (Or.inl ⟨by rfl, ?_⟩) trivial ?_
      rotate_left
      · (intro W hW; go_simp; try with_reducible rfl)
      (try simp only [Act.put])
      refine wpAnyH_ready (rs := [0]) (by kernel_rfl) (by simp) ?_
      refine AllReadyH.cons (o := _) rfl (fun K hK => ?_) AllReadyH.nil
      go_simp
      refine hK.out _ _ trivial (fun _ => ?_)
      clear hK K
      (try simp only [Act.put, List.setIfInBounds_toArray, List.set_cons_zero, List.set_cons_succ])
      refine wpAnyH_ready (rs := [4]) (by kernel_rfl) (by simp) ?_
      refine AllReadyH.cons (o := _) rfl (fun K hK => ?_) AllReadyH.nil
      refine step_of_listS ?_
      have gd : Grew w7 (w7.drew.alloc (.cells #[] 29)) := (Drew.grew ⟨1, rfl⟩ : Grew w7 w7.drew).trans (grew_alloc _ _)
      refine wpList_catFr rfl _ _ rfl w7.heap.size (.slice (some ⟨w7.heap.size, 0, none⟩) 0 0) [] (A.take k) rfl (World.ownsRow_lit w7.drew #[] 0 (Nat.le_refl _) (Nat.zero_le _) rfl) _ rfl ((HA.out.take (show k ≤ A.length by omega)).grew (GW7.out.trans gd)) (by simp; omega) gd.size ?_
      intro v10 w10 h10 hB10
      have G10 : Grew w7 w10 := Below.trans gd hB10
      have H10 := Lib.hid h10
      clear h10
      refine hK.out _ _ trivial (fun _ => ?_)
      clear hK K
      (try simp only [Act.put, List.setIfInBounds_toArray])
      refine wpAnyH_ready (rs := [9]) (by kernel_rfl) (by simp) ?_
      refine AllReadyH.cons (o := _) rfl (fun K hK => ?_) AllReadyH.nil
      refine step_of_listS ?_
      refine wpList_catFr rfl _ _ rfl w7.heap.size v10 ([] ++ A.take k) (A.drop (k + 1)) rfl H10.out _ rfl ((HA.out.drop (m := k + 1) (by omega) _ (by first | exact .inr rfl | exact .inl ⟨by omega, by rw [Nat.sub_self]; rfl⟩ | exact .inl ⟨by omega, by rw [Nat.sub_self, show A.length - (k + 1) = 0 by omega]; rfl⟩)).grew (GW7.out.trans G10)) (by simp; omega) G10.size ?_
      intro v11 w11 h11 hB11
      have G11 : Grew w7 w11 := Below.trans G10 hB11
      have hbf : SlR (restF (A.map (·.1)) k) w7 v11 w11 := by
        refine ⟨[] ++ A.take k ++ A.drop (k + 1), ⟨Sl.of_own h11, fun x hx => ?_⟩, ?_, G11⟩
        · refine (HA.out.2 x ?_).grew (GW7.out.trans G11)
          rw [List.nil_append] at hx
          rcases List.mem_append.1 hx with hx | hx
          · exact List.mem_of_mem_take hx
          · exact List.mem_of_mem_drop hx
        · rw [List.nil_append, List.map_append, List.map_take, List.map_drop]; rfl
      have HBF := Lib.hid hbf
      clear h11 hbf
      refine hK.out _ _ trivial (fun _ => ?_)
      clear hK K
      (try simp only [Act.put])
      refine wpAnyH_tail 10 rfl (by kernel_rfl) (by kernel_rfl) (fun _ => trivial) ?_
      simp only [List.drop_succ_cons, List.drop_zero]
      repeat (quiet_step (fail))
      refine wpQuiet_nil ?_
      rintro _ ⟨nq, rfl⟩
      have gq : Grew w11 (w11.drewN nq) := Drew.grew ⟨nq, rfl⟩
      go_wp2_with fail
      go_meet
      obtain ⟨Bx, q1, q2, q3⟩ := HBF.out
      exact ⟨Bx, q1.grew gq, q2, q3.trans gq⟩
  case rest =>
    obtain ⟨B, q1, q2, q3⟩ := hcut
    obtain ⟨ra, rn, rc, rfl, hrn, hr1, hr2⟩ := q1.open
    have hBl : B.length ≤ 12 := by
      have h1 := congrArg List.length q2
      rw [List.length_map] at h1
      have h2 : (restF (A.map (·.1)) k).length ≤ A.length := by unfold restF; rw [List.length_append, List.length_take, List.length_drop, List.length_map]; omega
      omega
    subst hrn
    have FB := Lib.hid q1
    have EB := Lib.hid q2
    have G8 := Lib.hid (G7.out.trans q3)
    have GW8 := Lib.hid (GW7.out.trans q3)
    obtain ⟨t, htt⟩ : ∃ t, t = tq % (B.length + 1) := ⟨_, rfl⟩
    have htl : t ≤ B.length := by have := Nat.mod_lt tq (show 0 < B.length + 1 by omega); omega
    have hmod2 : Int.tmod (tq : Int) ((B.length : Int) + 1) = (t : Int) := by
      rw [htt, Int.tmod_eq_emod_of_nonneg (by omega)]; rfl
    have hsz2 : ¬ ((B.length : Int) + 1 = 0) := by omega
    clear q1 q2 q3 htt hmod
    generalize wc = w8 at FB G8 GW8 ⊢
    have zt0 : (0 : Int) ≤ (t : Int) := by omega
    have zt1 : (t : Int) ≤ (B.length : Int) := by omega
    have zt2 : (t : Int) ≤ (rc : Int) := by omega
    go_upto_block 0 with fail
    go_cut [14] from 75 to 110 (fun x14 wx => SlR (wantF kind (A.map (·.1)) k t f) w8 x14 wx)
    case first =>
      rcases HKD.out with rfl | rfl | rfl
      · go_wp2_with fail
        go_meet
        exact ⟨B, FB.out, by rw [EB.out]; rfl, Below.refl _ _⟩
      · go_upto_region 12 with (fail)
        have hcc : c = k + 1 ∨ ¬ c = k + 1 := by omega
        rcases hcc with hck | hck
        · obtain rfl : c = k + 1 := hck
          refine wp_region_held_drew (S := fun V => Grew w8 V) (by kernel_rfl) (Drew.grew ⟨1, rfl⟩) (fun hHeld => ?_)
          have GZ0 := Lib.hid hHeld
          clear hHeld
          obtain ⟨Z0, hZ0⟩ : ∃ Z, Z = w8.drew := ⟨_, rfl⟩
          rw [← hZ0] at GZ0 ⊢
          clear hZ0
          refine wpAnyH_take (i := 1) (oi := _) (v := ?_) rfl (by kernel_rfl) (by kernel_rfl) (by kernel_rfl) (fun _ _ _ h => h) (Or.inl ⟨by rfl, ?_⟩) GZ0.out ?_
          rotate_left
          · (intro W hW; go_simp; try with_reducible rfl)
          (try simp only [Act.put, List.setIfInBounds_toArray])
          refine wpAnyH_take (i := 2) (oi := _) (v := ?_) rfl (by kernel_rfl) (by kernel_rfl) (by kernel_rfl) (fun _ _ _ h => h) (Or.inl ⟨by rfl, ?_⟩) GZ0.out ?_
          rotate_left
          · (intro W hW; go_simp; try with_reducible rfl)
          (try simp only [Act.put])
          refine wpAnyH_take (i := 3) (oi := _) (v := ?_) rfl (by kernel_rfl) (by kernel_rfl) (by kernel_rfl) (fun _ _ _ h => h) (Or.inl ⟨by rfl, ?_⟩) GZ0.out ?_
          rotate_left
          · (intro W hW; go_simp; try with_reducible rfl)
          (try simp only [Act.put])
          refine wpAnyH_take (i := 4) (oi := _) (v := ?_) rfl (by kernel_rfl) (by kernel_rfl) (by kernel_rfl) (fun _ _ _ h => h) (Or.inl ⟨by rfl, ?_⟩) GZ0.out ?_
          rotate_left
          · (intro W hW; go_simp; try with_reducible rfl)
          (try simp only [Act.put])
          refine wpAnyH_take (i := 6) (oi := _) (v := ?_) rfl (by kernel_rfl) (by kernel_rfl) (by kernel_rfl) (fun _ _ _ h => h) (Or.inl ⟨by rfl, ?_⟩) GZ0.out ?_
          rotate_left
          · (intro W hW; go_simp; try with_reducible rfl)
          (try simp only [Act.put])
          refine wpAnyH_take (i := 7) (oi := _) (v := ?_) rfl (by kernel_rfl) (by kernel_rfl) (by kernel_rfl) (fun _ _ _ h => h) (Or.inl ⟨by rfl, ?_⟩) GZ0.out ?_
          rotate_left
          · (intro W hW; go_simp; try with_reducible rfl)
          (try simp only [Act.put])
          refine wpAnyH_take (i := 8) (oi := _) (v := ?_) rfl (by kernel_rfl) (by kernel_rfl) (by kernel_rfl) (fun _ _ _ h => h) (Or.inl ⟨by rfl, ?_⟩) GZ0.out ?_
          rotate_left
          · (intro W hW; have y0 := below_ext (G8.out.trans hW) _ _ X0.out; have y1 := below_ext (G8.out.trans hW) _ _ X1.out; go_simp; try with_reducible rfl)
          (try simp only [Act.put])
          refine wpAnyH_take (i := 9) (oi := _) (v := ?_) rfl (by kernel_rfl) (by kernel_rfl) (by kernel_rfl) (fun _ _ _ h => h) (Or.inl ⟨by rfl, ?_⟩) GZ0.out ?_
          rotate_left
          · (intro W hW; have y0 := below_ext (G8.out.trans hW) _ _ X0.out; have y1 := below_ext (G8.out.trans hW) _ _ X1.out; go_simp; try with_reducible rfl)
          (try simp only [Act.put])
          refine wpAnyH_take (i := 12) (oi := _) (v := ?_) rfl (by kernel_rfl) (by kernel_rfl) (by kernel_rfl) (fun _ _ _ h => h) (Or.inl ⟨by rfl, ?_⟩) GZ0.out ?_
          rotate_left
          · (intro W hW; go_simp; try with_reducible rfl)
          (try simp only [Act.put])
          refine wpAnyH_take (i := 13) (oi := _) (v := ?_) rfl (by kernel_rfl) (by kernel_rfl) (by kernel_rfl) (fun _ _ _ h => h) (Or.inl ⟨by rfl, ?_⟩) GZ0.out ?_
          rotate_left
          · (intro W hW; go_simp; try with_reducible rfl)
          (try simp only [Act.put])
          refine wpAnyH_take (i := 14) (oi := _) (v := ?_) rfl (by kernel_rfl) (by kernel_rfl) (by kernel_rfl) (fun _ _ _ h => h) (Or.inl ⟨by rfl, ?_⟩) GZ0.out ?_
          rotate_left
          · (intro W hW; go_simp; try with_reducible rfl)
          (try simp only [Act.put])
          refine wpAnyH_take (i := 15) (oi := _) (v := ?_) rfl (by kernel_rfl) (by kernel_rfl) (by kernel_rfl) (fun _ _ _ h => h) (Or.inl ⟨by rfl, ?_⟩) GZ0.out ?_
          rotate_left
          · (intro W hW; go_simp; try with_reducible rfl)
          (try simp only [Act.put])
          refine wpAnyH_ready (rs := [0, 10]) (by kernel_rfl) (by simp) ?_
          refine AllReadyH.cons (o := _) rfl (fun K hK => ?_) (AllReadyH.cons (o := _) rfl (fun K hK => ?_) AllReadyH.nil)
          · skip
            go_simp
            obtain ⟨Z1, hZ1⟩ : ∃ V, V = Z0.alloc (.cells #[] 29) := ⟨_, rfl⟩
            have gx : Grew Z0 Z1 := by rw [hZ1]; exact grew_alloc _ _
            have GZ1 := Lib.hid (show Grew w8 Z1 from GZ0.out.trans gx)
            have HP := Lib.hid (show OwnFr Z1 w8.heap.size (.slice (some ⟨Z0.heap.size, 0, none⟩) 0 0) [] by rw [hZ1]; exact World.ownsRow_lit Z0 #[] 0 GZ0.out.size (Nat.zero_le _) rfl)
            have HZL := Lib.hid (show Z0.heap.size < Z1.heap.size by rw [hZ1]; simp)
            rw [← hZ1]
            clear hZ1 gx
            refine hK.out _ _ GZ1.out (fun _ => ?_)
            clear hK K
            (try simp only [Act.put, List.setIfInBounds_toArray, List.set_cons_zero, List.set_cons_succ])
            refine wpAnyH_ready (rs := [5, 10]) (by kernel_rfl) (by simp) ?_
            refine AllReadyH.cons (o := _) rfl (fun K hK => ?_) (AllReadyH.cons (o := _) rfl (fun K hK => ?_) AllReadyH.nil)
            · skip
              refine step_of_listS ?_
              refine wpList_catFrG rfl _ _ rfl w8.heap.size (.slice (some ⟨Z0.heap.size, 0, none⟩) 0 0) [] (A.take (k + 1)) rfl HP.out _ rfl ((HA.out.take (show k + 1 ≤ A.length by omega)).grew (GW8.out.trans GZ1.out)) (by simp; omega) GZ1.out.size ?_
              intro vx2 Z2 hx9 hB9 hg9
              have GZ2 := Lib.hid (show Grew w8 Z2 from Below.trans GZ1.out hB9)
              have HPn := Lib.hid hx9
              clear HP hx9 hB9 hg9
              have HP := HPn
              clear HPn
              refine hK.out _ _ GZ2.out (fun _ => ?_)
              clear hK K
              (try simp only [Act.put, List.setIfInBounds_toArray])
              refine wpAnyH_ready (rs := [10]) (by kernel_rfl) (by simp) ?_
              refine AllReadyH.cons (o := _) rfl (fun K hK => ?_) AllReadyH.nil
              · skip
                go_simp
                obtain ⟨Z3, hZ3⟩ : ∃ V, V = Z2.alloc (.cells #[.int .u8 (f.1.toNat : Int), .slice xa f.2.length xc] 29) := ⟨_, rfl⟩
                have gx : Grew Z2 Z3 := by rw [hZ3]; exact grew_alloc _ _
                have GZ3 := Lib.hid (show Grew w8 Z3 from GZ2.out.trans gx)
                have HPn := Lib.hid (own_grew HP.out gx)
                clear HP
                have HP := HPn
                clear HPn
                have HQ := Lib.hid (show Blk Z3 Z2.heap.size 29 #[.int .u8 (f.1.toNat : Int), .slice xa f.2.length xc] by rw [hZ3]; exact Blk.new _ _ _)
                rw [← hZ3]
                clear hZ3 gx
                refine hK.out _ _ GZ3.out (fun _ => ?_)
                clear hK K
                (try simp only [Act.put, List.setIfInBounds_toArray, List.set_cons_zero, List.set_cons_succ])
                refine wpAnyH_ready (rs := [11]) (by kernel_rfl) (by simp) ?_
                refine AllReadyH.cons (o := _) rfl (fun K hK => ?_) AllReadyH.nil
                refine step_of_listS ?_
                refine wpList_catFrG rfl _ _ rfl w8.heap.size vx2 ([] ++ A.take (k + 1)) [(f, .slice xa f.2.length xc)] rfl HP.out _ rfl (fsr_one HQ.out ((X2.out.grew G8.out).grew GZ3.out)) (by simp; omega) GZ3.out.size ?_
                intro vy Z4 hy hB9 _
                have GY := Lib.hid (show Grew w8 Z4 from Below.trans GZ3.out hB9)
                have HY := Lib.hid hy
                clear hy hB9 HP HQ
                refine hK.out _ _ GY.out (fun _ => ?_)
                clear hK K
                (try simp only [Act.put, List.setIfInBounds_toArray])
                refine wpAnyH_ready (rs := [16]) (by kernel_rfl) (by simp) ?_
                refine AllReadyH.cons (o := _) rfl (fun K hK => ?_) AllReadyH.nil
                refine step_of_listS ?_
                refine wpList_catFrG rfl _ _ rfl w8.heap.size vy ([] ++ A.take (k + 1) ++ [(f, .slice xa f.2.length xc)]) (A.drop (k + 1)) rfl HY.out _ rfl ((HA.out.drop (m := k + 1) (by omega) _ (by first | exact .inr rfl | exact .inl ⟨by omega, by rw [Nat.sub_self]; rfl⟩ | exact .inl ⟨by omega, by rw [Nat.sub_self, show A.length - (k + 1) = 0 by omega]; rfl⟩)).grew (GW8.out.trans GY.out)) (by simp; omega) GY.out.size ?_
                intro vz Z5 hz9 hB9 _
                have GZ := Lib.hid (show Grew w8 Z5 from Below.trans GY.out hB9)
                have HZ9 := Lib.hid hz9
                clear hz9 hB9 HY
                refine hK.out _ _ GZ.out (fun _ => ?_)
                clear hK K
                (try simp only [Act.put])
                refine wpAnyH_tail 17 rfl (by kernel_rfl) (by kernel_rfl) (fun q => GZ.out.trans (Drew.grew ⟨q, rfl⟩)) ?_
                simp only [List.drop_succ_cons, List.drop_zero]
                repeat (quiet_step (fail))
                refine wpQuiet_nil ?_
                rintro _ ⟨nq, rfl⟩
                have gq : Grew Z5 (Z5.drewN nq) := Drew.grew ⟨nq, rfl⟩
                go_wp2_with fail
                go_meet
                refine ⟨[] ++ A.take (k + 1) ++ [(f, .slice xa f.2.length xc)] ++ A.drop (k + 1), ⟨Sl.of_own (own_grew HZ9.out gq), fun x hx => ?_⟩, ?_, GZ.out.trans gq⟩
                · rw [List.nil_append] at hx
                  rcases List.mem_append.1 hx with hx | hx
                  · rcases List.mem_append.1 hx with hx | hx
                    · exact (HA.out.2 x (List.mem_of_mem_take hx)).grew ((GW8.out.trans GZ.out).trans gq)
                    · rw [List.mem_singleton.1 hx]; exact (X2.out.grew G8.out).grew (GZ.out.trans gq)
                  · exact (HA.out.2 x (List.mem_of_mem_drop hx)).grew ((GW8.out.trans GZ.out).trans gq)
                · unfold wantF; rw [if_pos rfl, List.nil_append]; simp [List.map_take, List.map_drop]
            · skip
              go_simp
              obtain ⟨Z6, hZ6⟩ : ∃ V, V = Z1.alloc (.cells #[.int .u8 (f.1.toNat : Int), .slice xa f.2.length xc] 29) := ⟨_, rfl⟩
              have gx : Grew Z1 Z6 := by rw [hZ6]; exact grew_alloc _ _
              have GZ6 := Lib.hid (show Grew w8 Z6 from GZ1.out.trans gx)
              have HNE := Lib.hid (show Z1.heap.size ≠ Z0.heap.size by have := HZL.out; omega)
              have HPn := Lib.hid (own_grew HP.out gx)
              clear HP
              have HP := HPn
              clear HPn
              have HQ := Lib.hid (show Blk Z6 Z1.heap.size 29 #[.int .u8 (f.1.toNat : Int), .slice xa f.2.length xc] by rw [hZ6]; exact Blk.new _ _ _)
              rw [← hZ6]
              clear hZ6 gx
              refine hK.out _ _ GZ6.out (fun _ => ?_)
              clear hK K
              (try simp only [Act.put, List.setIfInBounds_toArray, List.set_cons_zero, List.set_cons_succ])
              refine wpAnyH_ready (rs := [5]) (by kernel_rfl) (by simp) ?_
              refine AllReadyH.cons (o := _) rfl (fun K hK => ?_) AllReadyH.nil
              · skip
                refine step_of_listS ?_
                refine wpList_catFrG rfl _ _ rfl w8.heap.size (.slice (some ⟨Z0.heap.size, 0, none⟩) 0 0) [] (A.take (k + 1)) rfl HP.out _ rfl ((HA.out.take (show k + 1 ≤ A.length by omega)).grew (GW8.out.trans GZ6.out)) (by simp; omega) GZ6.out.size ?_
                intro vx7 Z7 hx9 hB9 hg9
                have GZ7 := Lib.hid (show Grew w8 Z7 from Below.trans GZ6.out hB9)
                have HQn := Lib.hid (HQ.out.kept hg9 (fun e => HNE.out (by simpa [Value.ownBlock] using e)))
                clear HQ
                have HQ := HQn
                clear HQn
                have HPn := Lib.hid hx9
                clear HP hx9 hB9 hg9
                have HP := HPn
                clear HPn
                refine hK.out _ _ GZ7.out (fun _ => ?_)
                clear hK K
                (try simp only [Act.put, List.setIfInBounds_toArray])
                refine wpAnyH_ready (rs := [11]) (by kernel_rfl) (by simp) ?_
                refine AllReadyH.cons (o := _) rfl (fun K hK => ?_) AllReadyH.nil
                refine step_of_listS ?_
                refine wpList_catFrG rfl _ _ rfl w8.heap.size vx7 ([] ++ A.take (k + 1)) [(f, .slice xa f.2.length xc)] rfl HP.out _ rfl (fsr_one HQ.out ((X2.out.grew G8.out).grew GZ7.out)) (by simp; omega) GZ7.out.size ?_
                intro vy Z8 hy hB9 _
                have GY := Lib.hid (show Grew w8 Z8 from Below.trans GZ7.out hB9)
                have HY := Lib.hid hy
                clear hy hB9 HP HQ
                refine hK.out _ _ GY.out (fun _ => ?_)
                clear hK K
                (try simp only [Act.put])
                refine wpAnyH_ready (rs := [16]) (by kernel_rfl) (by simp) ?_
                refine AllReadyH.cons (o := _) rfl (fun K hK => ?_) AllReadyH.nil
                refine step_of_listS ?_
                refine wpList_catFrG rfl _ _ rfl w8.heap.size vy ([] ++ A.take (k + 1) ++ [(f, .slice xa f.2.length xc)]) (A.drop (k + 1)) rfl HY.out _ rfl ((HA.out.drop (m := k + 1) (by omega) _ (by first | exact .inr rfl | exact .inl ⟨by omega, by rw [Nat.sub_self]; rfl⟩ | exact .inl ⟨by omega, by rw [Nat.sub_self, show A.length - (k + 1) = 0 by omega]; rfl⟩)).grew (GW8.out.trans GY.out)) (by simp; omega) GY.out.size ?_
                intro vz Z9 hz9 hB9 _
                have GZ := Lib.hid (show Grew w8 Z9 from Below.trans GY.out hB9)
                have HZ9 := Lib.hid hz9
                clear hz9 hB9 HY
                refine hK.out _ _ GZ.out (fun _ => ?_)
                clear hK K
                (try simp only [Act.put])
                refine wpAnyH_tail 17 rfl (by kernel_rfl) (by kernel_rfl) (fun q => GZ.out.trans (Drew.grew ⟨q, rfl⟩)) ?_
                simp only [List.drop_succ_cons, List.drop_zero]
                repeat (quiet_step (fail))
                refine wpQuiet_nil ?_
                rintro _ ⟨nq, rfl⟩
                have gq : Grew Z9 (Z9.drewN nq) := Drew.grew ⟨nq, rfl⟩
                go_wp2_with fail
                go_meet
                refine ⟨[] ++ A.take (k + 1) ++ [(f, .slice xa f.2.length xc)] ++ A.drop (k + 1), ⟨Sl.of_own (own_grew HZ9.out gq), fun x hx => ?_⟩, ?_, GZ.out.trans gq⟩
                · rw [List.nil_append] at hx
                  rcases List.mem_append.1 hx with hx | hx
                  · rcases List.mem_append.1 hx with hx | hx
                    · exact (HA.out.2 x (List.mem_of_mem_take hx)).grew ((GW8.out.trans GZ.out).trans gq)
                    · rw [List.mem_singleton.1 hx]; exact (X2.out.grew G8.out).grew (GZ.out.trans gq)
                  · exact (HA.out.2 x (List.mem_of_mem_drop hx)).grew ((GW8.out.trans GZ.out).trans gq)
                · unfold wantF; rw [if_pos rfl, List.nil_append]; simp [List.map_take, List.map_drop]
          · skip
            go_simp
            obtain ⟨Z10, hZ10⟩ : ∃ V, V = Z0.alloc (.cells #[.int .u8 (f.1.toNat : Int), .slice xa f.2.length xc] 29) := ⟨_, rfl⟩
            have gx : Grew Z0 Z10 := by rw [hZ10]; exact grew_alloc _ _
            have GZ10 := Lib.hid (show Grew w8 Z10 from GZ0.out.trans gx)
            have HQ := Lib.hid (show Blk Z10 Z0.heap.size 29 #[.int .u8 (f.1.toNat : Int), .slice xa f.2.length xc] by rw [hZ10]; exact Blk.new _ _ _)
            rw [← hZ10]
            clear hZ10 gx
            refine hK.out _ _ GZ10.out (fun _ => ?_)
            clear hK K
            (try simp only [Act.put, List.setIfInBounds_toArray, List.set_cons_zero, List.set_cons_succ])
            refine wpAnyH_ready (rs := [0]) (by kernel_rfl) (by simp) ?_
            refine AllReadyH.cons (o := _) rfl (fun K hK => ?_) AllReadyH.nil
            · skip
              go_simp
              obtain ⟨Z11, hZ11⟩ : ∃ V, V = Z10.alloc (.cells #[] 29) := ⟨_, rfl⟩
              have gx : Grew Z10 Z11 := by rw [hZ11]; exact grew_alloc _ _
              have GZ11 := Lib.hid (show Grew w8 Z11 from GZ10.out.trans gx)
              have HNE := Lib.hid (show Z0.heap.size ≠ Z10.heap.size by have := HQ.out.lt; omega)
              have HQn := Lib.hid (HQ.out.grew gx)
              clear HQ
              have HQ := HQn
              clear HQn
              have HP := Lib.hid (show OwnFr Z11 w8.heap.size (.slice (some ⟨Z10.heap.size, 0, none⟩) 0 0) [] by rw [hZ11]; exact World.ownsRow_lit Z10 #[] 0 GZ10.out.size (Nat.zero_le _) rfl)
              have HZL := Lib.hid (show Z10.heap.size < Z11.heap.size by rw [hZ11]; simp)
              rw [← hZ11]
              clear hZ11 gx
              refine hK.out _ _ GZ11.out (fun _ => ?_)
              clear hK K
              (try simp only [Act.put, List.setIfInBounds_toArray, List.set_cons_zero, List.set_cons_succ])
              refine wpAnyH_ready (rs := [5]) (by kernel_rfl) (by simp) ?_
              refine AllReadyH.cons (o := _) rfl (fun K hK => ?_) AllReadyH.nil
              · skip
                refine step_of_listS ?_
                refine wpList_catFrG rfl _ _ rfl w8.heap.size (.slice (some ⟨Z10.heap.size, 0, none⟩) 0 0) [] (A.take (k + 1)) rfl HP.out _ rfl ((HA.out.take (show k + 1 ≤ A.length by omega)).grew (GW8.out.trans GZ11.out)) (by simp; omega) GZ11.out.size ?_
                intro vx12 Z12 hx9 hB9 hg9
                have GZ12 := Lib.hid (show Grew w8 Z12 from Below.trans GZ11.out hB9)
                have HQn := Lib.hid (HQ.out.kept hg9 (fun e => HNE.out (by simpa [Value.ownBlock] using e)))
                clear HQ
                have HQ := HQn
                clear HQn
                have HPn := Lib.hid hx9
                clear HP hx9 hB9 hg9
                have HP := HPn
                clear HPn
                refine hK.out _ _ GZ12.out (fun _ => ?_)
                clear hK K
                (try simp only [Act.put, List.setIfInBounds_toArray])
                refine wpAnyH_ready (rs := [11]) (by kernel_rfl) (by simp) ?_
                refine AllReadyH.cons (o := _) rfl (fun K hK => ?_) AllReadyH.nil
                refine step_of_listS ?_
                refine wpList_catFrG rfl _ _ rfl w8.heap.size vx12 ([] ++ A.take (k + 1)) [(f, .slice xa f.2.length xc)] rfl HP.out _ rfl (fsr_one HQ.out ((X2.out.grew G8.out).grew GZ12.out)) (by simp; omega) GZ12.out.size ?_
                intro vy Z13 hy hB9 _
                have GY := Lib.hid (show Grew w8 Z13 from Below.trans GZ12.out hB9)
                have HY := Lib.hid hy
                clear hy hB9 HP HQ
                refine hK.out _ _ GY.out (fun _ => ?_)
                clear hK K
                (try simp only [Act.put])
                refine wpAnyH_ready (rs := [16]) (by kernel_rfl) (by simp) ?_
                refine AllReadyH.cons (o := _) rfl (fun K hK => ?_) AllReadyH.nil
                refine step_of_listS ?_
                refine wpList_catFrG rfl _ _ rfl w8.heap.size vy ([] ++ A.take (k + 1) ++ [(f, .slice xa f.2.length xc)]) (A.drop (k + 1)) rfl HY.out _ rfl ((HA.out.drop (m := k + 1) (by omega) _ (by first | exact .inr rfl | exact .inl ⟨by omega, by rw [Nat.sub_self]; rfl⟩ | exact .inl ⟨by omega, by rw [Nat.sub_self, show A.length - (k + 1) = 0 by omega]; rfl⟩)).grew (GW8.out.trans GY.out)) (by simp; omega) GY.out.size ?_
                intro vz Z14 hz9 hB9 _
                have GZ := Lib.hid (show Grew w8 Z14 from Below.trans GY.out hB9)
                have HZ9 := Lib.hid hz9
                clear hz9 hB9 HY
                refine hK.out _ _ GZ.out (fun _ => ?_)
                clear hK K
                (try simp only [Act.put])
                refine wpAnyH_tail 17 rfl (by kernel_rfl) (by kernel_rfl) (fun q => GZ.out.trans (Drew.grew ⟨q, rfl⟩)) ?_
                simp only [List.drop_succ_cons, List.drop_zero]
                repeat (quiet_step (fail))
                refine wpQuiet_nil ?_
                rintro _ ⟨nq, rfl⟩
                have gq : Grew Z14 (Z14.drewN nq) := Drew.grew ⟨nq, rfl⟩
                go_wp2_with fail
                go_meet
                refine ⟨[] ++ A.take (k + 1) ++ [(f, .slice xa f.2.length xc)] ++ A.drop (k + 1), ⟨Sl.of_own (own_grew HZ9.out gq), fun x hx => ?_⟩, ?_, GZ.out.trans gq⟩
                · rw [List.nil_append] at hx
                  rcases List.mem_append.1 hx with hx | hx
                  · rcases List.mem_append.1 hx with hx | hx
                    · exact (HA.out.2 x (List.mem_of_mem_take hx)).grew ((GW8.out.trans GZ.out).trans gq)
                    · rw [List.mem_singleton.1 hx]; exact (X2.out.grew G8.out).grew (GZ.out.trans gq)
                  · exact (HA.out.2 x (List.mem_of_mem_drop hx)).grew ((GW8.out.trans GZ.out).trans gq)
                · unfold wantF; rw [if_pos rfl, List.nil_append]; simp [List.map_take, List.map_drop]
        · refine wp_region_held_drew (S := fun V => Grew w8 V) (by kernel_rfl) (Drew.grew ⟨1, rfl⟩) (fun hHeld => ?_)
          have GZ0 := Lib.hid hHeld
          clear hHeld
          obtain ⟨Z0, hZ0⟩ : ∃ Z, Z = w8.drew := ⟨_, rfl⟩
          rw [← hZ0] at GZ0 ⊢
          clear hZ0
          refine wpAnyH_take (i := 1) (oi := _) (v := ?_) rfl (by kernel_rfl) (by kernel_rfl) (by kernel_rfl) (fun _ _ _ h => h) (Or.inl ⟨by rfl, ?_⟩) GZ0.out ?_
          rotate_left
          · (intro W hW; go_simp; try with_reducible rfl)
          (try simp only [Act.put, List.setIfInBounds_toArray])
          refine wpAnyH_take (i := 2) (oi := _) (v := ?_) rfl (by kernel_rfl) (by kernel_rfl) (by kernel_rfl) (fun _ _ _ h => h) (Or.inl ⟨by rfl, ?_⟩) GZ0.out ?_
          rotate_left
          · (intro W hW; go_simp; try with_reducible rfl)
          (try simp only [Act.put])
          refine wpAnyH_take (i := 3) (oi := _) (v := ?_) rfl (by kernel_rfl) (by kernel_rfl) (by kernel_rfl) (fun _ _ _ h => h) (Or.inl ⟨by rfl, ?_⟩) GZ0.out ?_
          rotate_left
          · (intro W hW; go_simp; try with_reducible rfl)
          (try simp only [Act.put])
          refine wpAnyH_take (i := 4) (oi := _) (v := ?_) rfl (by kernel_rfl) (by kernel_rfl) (by kernel_rfl) (fun _ _ _ h => h) (Or.inl ⟨by rfl, ?_⟩) GZ0.out ?_
          rotate_left
          · (intro W hW; go_simp; try with_reducible rfl)
          (try simp only [Act.put])
          refine wpAnyH_take (i := 6) (oi := _) (v := ?_) rfl (by kernel_rfl) (by kernel_rfl) (by kernel_rfl) (fun _ _ _ h => h) (Or.inl ⟨by rfl, ?_⟩) GZ0.out ?_
          rotate_left
          · (intro W hW; go_simp; try with_reducible rfl)
          (try simp only [Act.put])
          refine wpAnyH_take (i := 7) (oi := _) (v := ?_) rfl (by kernel_rfl) (by kernel_rfl) (by kernel_rfl) (fun _ _ _ h => h) (Or.inl ⟨by rfl, ?_⟩) GZ0.out ?_
          rotate_left
          · (intro W hW; go_simp; try with_reducible rfl)
          (try simp only [Act.put])
          refine wpAnyH_take (i := 8) (oi := _) (v := ?_) rfl (by kernel_rfl) (by kernel_rfl) (by kernel_rfl) (fun _ _ _ h => h) (Or.inl ⟨by rfl, ?_⟩) GZ0.out ?_
          rotate_left
          · (intro W hW; have y0 := below_ext (G8.out.trans hW) _ _ X0.out; have y1 := below_ext (G8.out.trans hW) _ _ X1.out; go_simp; try with_reducible rfl)
          (try simp only [Act.put])
          refine wpAnyH_take (i := 9) (oi := _) (v := ?_) rfl (by kernel_rfl) (by kernel_rfl) (by kernel_rfl) (fun _ _ _ h => h) (Or.inl ⟨by rfl, ?_⟩) GZ0.out ?_
          rotate_left
          · (intro W hW; have y0 := below_ext (G8.out.trans hW) _ _ X0.out; have y1 := below_ext (G8.out.trans hW) _ _ X1.out; go_simp; try with_reducible rfl)
          (try simp only [Act.put])
          refine wpAnyH_take (i := 12) (oi := _) (v := ?_) rfl (by kernel_rfl) (by kernel_rfl) (by kernel_rfl) (fun _ _ _ h => h) (Or.inl ⟨by rfl, ?_⟩) GZ0.out ?_
          rotate_left
          · (intro W hW; go_simp; try with_reducible rfl)
          (try simp only [Act.put])
          refine wpAnyH_take (i := 13) (oi := _) (v := ?_) rfl (by kernel_rfl) (by kernel_rfl) (by kernel_rfl) (fun _ _ _ h => h) (Or.inl ⟨by rfl, ?_⟩) GZ0.out ?_
          rotate_left
          · (intro W hW; go_simp; try with_reducible rfl)
          (try simp only [Act.put])
          refine wpAnyH_take (i := 14) (oi := _) (v := ?_) rfl (by kernel_rfl) (by kernel_rfl) (by kernel_rfl) (fun _ _ _ h => h) (Or.inl ⟨by rfl, ?_⟩) GZ0.out ?_
          rotate_left
          · (intro W hW; go_simp; try with_reducible rfl)
          (try simp only [Act.put])
          refine wpAnyH_take (i := 15) (oi := _) (v := ?_) rfl (by kernel_rfl) (by kernel_rfl) (by kernel_rfl) (fun _ _ _ h => h) (Or.inl ⟨by rfl, ?_⟩) GZ0.out ?_
          rotate_left
          · (intro W hW; go_simp; try with_reducible rfl)
          (try simp only [Act.put])
          refine wpAnyH_ready (rs := [0, 10]) (by kernel_rfl) (by simp) ?_
          refine AllReadyH.cons (o := _) rfl (fun K hK => ?_) (AllReadyH.cons (o := _) rfl (fun K hK => ?_) AllReadyH.nil)
          · skip
            go_simp
            obtain ⟨Z1, hZ1⟩ : ∃ V, V = Z0.alloc (.cells #[] 29) := ⟨_, rfl⟩
            have gx : Grew Z0 Z1 := by rw [hZ1]; exact grew_alloc _ _
            have GZ1 := Lib.hid (show Grew w8 Z1 from GZ0.out.trans gx)
            have HP := Lib.hid (show OwnFr Z1 w8.heap.size (.slice (some ⟨Z0.heap.size, 0, none⟩) 0 0) [] by rw [hZ1]; exact World.ownsRow_lit Z0 #[] 0 GZ0.out.size (Nat.zero_le _) rfl)
            have HZL := Lib.hid (show Z0.heap.size < Z1.heap.size by rw [hZ1]; simp)
            rw [← hZ1]
            clear hZ1 gx
            refine hK.out _ _ GZ1.out (fun _ => ?_)
            clear hK K
            (try simp only [Act.put, List.setIfInBounds_toArray, List.set_cons_zero, List.set_cons_succ])
            refine wpAnyH_ready (rs := [5, 10]) (by kernel_rfl) (by simp) ?_
            refine AllReadyH.cons (o := _) rfl (fun K hK => ?_) (AllReadyH.cons (o := _) rfl (fun K hK => ?_) AllReadyH.nil)
            · skip
              refine step_of_listS ?_
              refine wpList_catFrG rfl _ _ rfl w8.heap.size (.slice (some ⟨Z0.heap.size, 0, none⟩) 0 0) [] (A.take (k + 1)) rfl HP.out _ rfl ((HA.out.take (show k + 1 ≤ A.length by omega)).grew (GW8.out.trans GZ1.out)) (by simp; omega) GZ1.out.size ?_
              intro vx2 Z2 hx9 hB9 hg9
              have GZ2 := Lib.hid (show Grew w8 Z2 from Below.trans GZ1.out hB9)
              have HPn := Lib.hid hx9
              clear HP hx9 hB9 hg9
              have HP := HPn
              clear HPn
              refine hK.out _ _ GZ2.out (fun _ => ?_)
              clear hK K
              (try simp only [Act.put, List.setIfInBounds_toArray])
              refine wpAnyH_ready (rs := [10]) (by kernel_rfl) (by simp) ?_
              refine AllReadyH.cons (o := _) rfl (fun K hK => ?_) AllReadyH.nil
              · skip
                go_simp
                obtain ⟨Z3, hZ3⟩ : ∃ V, V = Z2.alloc (.cells #[.int .u8 (f.1.toNat : Int), .slice xa f.2.length xc] 29) := ⟨_, rfl⟩
                have gx : Grew Z2 Z3 := by rw [hZ3]; exact grew_alloc _ _
                have GZ3 := Lib.hid (show Grew w8 Z3 from GZ2.out.trans gx)
                have HPn := Lib.hid (own_grew HP.out gx)
                clear HP
                have HP := HPn
                clear HPn
                have HQ := Lib.hid (show Blk Z3 Z2.heap.size 29 #[.int .u8 (f.1.toNat : Int), .slice xa f.2.length xc] by rw [hZ3]; exact Blk.new _ _ _)
                rw [← hZ3]
                clear hZ3 gx
                refine hK.out _ _ GZ3.out (fun _ => ?_)
                clear hK K
                (try simp only [Act.put, List.setIfInBounds_toArray, List.set_cons_zero, List.set_cons_succ])
                refine wpAnyH_ready (rs := [11]) (by kernel_rfl) (by simp) ?_
                refine AllReadyH.cons (o := _) rfl (fun K hK => ?_) AllReadyH.nil
                refine step_of_listS ?_
                refine wpList_catFrG rfl _ _ rfl w8.heap.size vx2 ([] ++ A.take (k + 1)) [(f, .slice xa f.2.length xc)] rfl HP.out _ rfl (fsr_one HQ.out ((X2.out.grew G8.out).grew GZ3.out)) (by simp; omega) GZ3.out.size ?_
                intro vy Z4 hy hB9 _
                have GY := Lib.hid (show Grew w8 Z4 from Below.trans GZ3.out hB9)
                have HY := Lib.hid hy
                clear hy hB9 HP HQ
                refine hK.out _ _ GY.out (fun _ => ?_)
                clear hK K
                (try simp only [Act.put, List.setIfInBounds_toArray])
                refine wpAnyH_ready (rs := [16]) (by kernel_rfl) (by simp) ?_
                refine AllReadyH.cons (o := _) rfl (fun K hK => ?_) AllReadyH.nil
                refine step_of_listS ?_
                refine wpList_catFrG rfl _ _ rfl w8.heap.size vy ([] ++ A.take (k + 1) ++ [(f, .slice xa f.2.length xc)]) (A.drop (k + 1)) rfl HY.out _ rfl ((HA.out.drop (m := k + 1) (by omega) _ (by first | exact .inr rfl | exact .inl ⟨by omega, by rw [Nat.sub_self]; rfl⟩ | exact .inl ⟨by omega, by rw [Nat.sub_self, show A.length - (k + 1) = 0 by omega]; rfl⟩)).grew (GW8.out.trans GY.out)) (by simp; omega) GY.out.size ?_
                intro vz Z5 hz9 hB9 _
                have GZ := Lib.hid (show Grew w8 Z5 from Below.trans GY.out hB9)
                have HZ9 := Lib.hid hz9
                clear hz9 hB9 HY
                refine hK.out _ _ GZ.out (fun _ => ?_)
                clear hK K
                (try simp only [Act.put])
                refine wpAnyH_tail 17 rfl (by kernel_rfl) (by kernel_rfl) (fun q => GZ.out.trans (Drew.grew ⟨q, rfl⟩)) ?_
                simp only [List.drop_succ_cons, List.drop_zero]
                repeat (quiet_step (fail))
                refine wpQuiet_nil ?_
                rintro _ ⟨nq, rfl⟩
                have gq : Grew Z5 (Z5.drewN nq) := Drew.grew ⟨nq, rfl⟩
                go_wp2_with fail
                go_meet
                refine ⟨[] ++ A.take (k + 1) ++ [(f, .slice xa f.2.length xc)] ++ A.drop (k + 1), ⟨Sl.of_own (own_grew HZ9.out gq), fun x hx => ?_⟩, ?_, GZ.out.trans gq⟩
                · rw [List.nil_append] at hx
                  rcases List.mem_append.1 hx with hx | hx
                  · rcases List.mem_append.1 hx with hx | hx
                    · exact (HA.out.2 x (List.mem_of_mem_take hx)).grew ((GW8.out.trans GZ.out).trans gq)
                    · rw [List.mem_singleton.1 hx]; exact (X2.out.grew G8.out).grew (GZ.out.trans gq)
                  · exact (HA.out.2 x (List.mem_of_mem_drop hx)).grew ((GW8.out.trans GZ.out).trans gq)
                · unfold wantF; rw [if_pos rfl, List.nil_append]; simp [List.map_take, List.map_drop]
            · skip
              go_simp
              obtain ⟨Z6, hZ6⟩ : ∃ V, V = Z1.alloc (.cells #[.int .u8 (f.1.toNat : Int), .slice xa f.2.length xc] 29) := ⟨_, rfl⟩
              have gx : Grew Z1 Z6 := by rw [hZ6]; exact grew_alloc _ _
              have GZ6 := Lib.hid (show Grew w8 Z6 from GZ1.out.trans gx)
              have HNE := Lib.hid (show Z1.heap.size ≠ Z0.heap.size by have := HZL.out; omega)
              have HPn := Lib.hid (own_grew HP.out gx)
              clear HP
              have HP := HPn
              clear HPn
              have HQ := Lib.hid (show Blk Z6 Z1.heap.size 29 #[.int .u8 (f.1.toNat : Int), .slice xa f.2.length xc] by rw [hZ6]; exact Blk.new _ _ _)
              rw [← hZ6]
              clear hZ6 gx
              refine hK.out _ _ GZ6.out (fun _ => ?_)
              clear hK K
              (try simp only [Act.put, List.setIfInBounds_toArray, List.set_cons_zero, List.set_cons_succ])
              refine wpAnyH_ready (rs := [5]) (by kernel_rfl) (by simp) ?_
              refine AllReadyH.cons (o := _) rfl (fun K hK => ?_) AllReadyH.nil
              · skip
                refine step_of_listS ?_
                refine wpList_catFrG rfl _ _ rfl w8.heap.size (.slice (some ⟨Z0.heap.size, 0, none⟩) 0 0) [] (A.take (k + 1)) rfl HP.out _ rfl ((HA.out.take (show k + 1 ≤ A.length by omega)).grew (GW8.out.trans GZ6.out)) (by simp; omega) GZ6.out.size ?_
                intro vx7 Z7 hx9 hB9 hg9
                have GZ7 := Lib.hid (show Grew w8 Z7 from Below.trans GZ6.out hB9)
                have HQn := Lib.hid (HQ.out.kept hg9 (fun e => HNE.out (by simpa [Value.ownBlock] using e)))
                clear HQ
                have HQ := HQn
                clear HQn
                have HPn := Lib.hid hx9
                clear HP hx9 hB9 hg9
                have HP := HPn
                clear HPn
                refine hK.out _ _ GZ7.out (fun _ => ?_)
                clear hK K
                (try simp only [Act.put, List.setIfInBounds_toArray])
                refine wpAnyH_ready (rs := [11]) (by kernel_rfl) (by simp) ?_
                refine AllReadyH.cons (o := _) rfl (fun K hK => ?_) AllReadyH.nil
                refine step_of_listS ?_
                refine wpList_catFrG rfl _ _ rfl w8.heap.size vx7 ([] ++ A.take (k + 1)) [(f, .slice xa f.2.length xc)] rfl HP.out _ rfl (fsr_one HQ.out ((X2.out.grew G8.out).grew GZ7.out)) (by simp; omega) GZ7.out.size ?_
                intro vy Z8 hy hB9 _
                have GY := Lib.hid (show Grew w8 Z8 from Below.trans GZ7.out hB9)
                have HY := Lib.hid hy
                clear hy hB9 HP HQ
                refine hK.out _ _ GY.out (fun _ => ?_)
                clear hK K
                (try simp only [Act.put])
                refine wpAnyH_ready (rs := [16]) (by kernel_rfl) (by simp) ?_
                refine AllReadyH.cons (o := _) rfl (fun K hK => ?_) AllReadyH.nil
                refine step_of_listS ?_
                refine wpList_catFrG rfl _ _ rfl w8.heap.size vy ([] ++ A.take (k + 1) ++ [(f, .slice xa f.2.length xc)]) (A.drop (k + 1)) rfl HY.out _ rfl ((HA.out.drop (m := k + 1) (by omega) _ (by first | exact .inr rfl | exact .inl ⟨by omega, by rw [Nat.sub_self]; rfl⟩ | exact .inl ⟨by omega, by rw [Nat.sub_self, show A.length - (k + 1) = 0 by omega]; rfl⟩)).grew (GW8.out.trans GY.out)) (by simp; omega) GY.out.size ?_
                intro vz Z9 hz9 hB9 _
                have GZ := Lib.hid (show Grew w8 Z9 from Below.trans GY.out hB9)
                have HZ9 := Lib.hid hz9
                clear hz9 hB9 HY
                refine hK.out _ _ GZ.out (fun _ => ?_)
                clear hK K
                (try simp only [Act.put])
                refine wpAnyH_tail 17 rfl (by kernel_rfl) (by kernel_rfl) (fun q => GZ.out.trans (Drew.grew ⟨q, rfl⟩)) ?_
                simp only [List.drop_succ_cons, List.drop_zero]
                repeat (quiet_step (fail))
                refine wpQuiet_nil ?_
                rintro _ ⟨nq, rfl⟩
                have gq : Grew Z9 (Z9.drewN nq) := Drew.grew ⟨nq, rfl⟩
                go_wp2_with fail
                go_meet
                refine ⟨[] ++ A.take (k + 1) ++ [(f, .slice xa f.2.length xc)] ++ A.drop (k + 1), ⟨Sl.of_own (own_grew HZ9.out gq), fun x hx => ?_⟩, ?_, GZ.out.trans gq⟩
                · rw [List.nil_append] at hx
                  rcases List.mem_append.1 hx with hx | hx
                  · rcases List.mem_append.1 hx with hx | hx
                    · exact (HA.out.2 x (List.mem_of_mem_take hx)).grew ((GW8.out.trans GZ.out).trans gq)
                    · rw [List.mem_singleton.1 hx]; exact (X2.out.grew G8.out).grew (GZ.out.trans gq)
                  · exact (HA.out.2 x (List.mem_of_mem_drop hx)).grew ((GW8.out.trans GZ.out).trans gq)
                · unfold wantF; rw [if_pos rfl, List.nil_append]; simp [List.map_take, List.map_drop]
          · skip
            go_simp
            obtain ⟨Z10, hZ10⟩ : ∃ V, V = Z0.alloc (.cells #[.int .u8 (f.1.toNat : Int), .slice xa f.2.length xc] 29) := ⟨_, rfl⟩
            have gx : Grew Z0 Z10 := by rw [hZ10]; exact grew_alloc _ _
            have GZ10 := Lib.hid (show Grew w8 Z10 from GZ0.out.trans gx)
            have HQ := Lib.hid (show Blk Z10 Z0.heap.size 29 #[.int .u8 (f.1.toNat : Int), .slice xa f.2.length xc] by rw [hZ10]; exact Blk.new _ _ _)
            rw [← hZ10]
            clear hZ10 gx
            refine hK.out _ _ GZ10.out (fun _ => ?_)
            clear hK K
            (try simp only [Act.put, List.setIfInBounds_toArray, List.set_cons_zero, List.set_cons_succ])
            refine wpAnyH_ready (rs := [0]) (by kernel_rfl) (by simp) ?_
            refine AllReadyH.cons (o := _) rfl (fun K hK => ?_) AllReadyH.nil
            · skip
              go_simp
              obtain ⟨Z11, hZ11⟩ : ∃ V, V = Z10.alloc (.cells #[] 29) := ⟨_, rfl⟩
              have gx : Grew Z10 Z11 := by rw [hZ11]; exact grew_alloc _ _
              have GZ11 := Lib.hid (show Grew w8 Z11 from GZ10.out.trans gx)
              have HNE := Lib.hid (show Z0.heap.size ≠ Z10.heap.size by have := HQ.out.lt; omega)
              have HQn := Lib.hid (HQ.out.grew gx)
              clear HQ
              have HQ := HQn
              clear HQn
              have HP := Lib.hid (show OwnFr Z11 w8.heap.size (.slice (some ⟨Z10.heap.size, 0, none⟩) 0 0) [] by rw [hZ11]; exact World.ownsRow_lit Z10 #[] 0 GZ10.out.size (Nat.zero_le _) rfl)
              have HZL := Lib.hid (show Z10.heap.size < Z11.heap.size by rw [hZ11]; simp)
              rw [← hZ11]
              clear hZ11 gx
              refine hK.out _ _ GZ11.out (fun _ => ?_)
              clear hK K
              (try simp only [Act.put, List.setIfInBounds_toArray, List.set_cons_zero, List.set_cons_succ])
              refine wpAnyH_ready (rs := [5]) (by kernel_rfl) (by simp) ?_
              refine AllReadyH.cons (o := _) rfl (fun K hK => ?_) AllReadyH.nil
              · skip
                refine step_of_listS ?_
                refine wpList_catFrG rfl _ _ rfl w8.heap.size (.slice (some ⟨Z10.heap.size, 0, none⟩) 0 0) [] (A.take (k + 1)) rfl HP.out _ rfl ((HA.out.take (show k + 1 ≤ A.length by omega)).grew (GW8.out.trans GZ11.out)) (by simp; omega) GZ11.out.size ?_
                intro vx12 Z12 hx9 hB9 hg9
                have GZ12 := Lib.hid (show Grew w8 Z12 from Below.trans GZ11.out hB9)
                have HQn := Lib.hid (HQ.out.kept hg9 (fun e => HNE.out (by simpa [Value.ownBlock] using e)))
                clear HQ
                have HQ := HQn
                clear HQn
                have HPn := Lib.hid hx9
                clear HP hx9 hB9 hg9
                have HP := HPn
                clear HPn
                refine hK.out _ _ GZ12.out (fun _ => ?_)
                clear hK K
                (try simp only [Act.put, List.setIfInBounds_toArray])
                refine wpAnyH_ready (rs := [11]) (by kernel_rfl) (by simp) ?_
                refine AllReadyH.cons (o := _) rfl (fun K hK => ?_) AllReadyH.nil
                refine step_of_listS ?_
                refine wpList_catFrG rfl _ _ rfl w8.heap.size vx12 ([] ++ A.take (k + 1)) [(f, .slice xa f.2.length xc)] rfl HP.out _ rfl (fsr_one HQ.out ((X2.out.grew G8.out).grew GZ12.out)) (by simp; omega) GZ12.out.size ?_
                intro vy Z13 hy hB9 _
                have GY := Lib.hid (show Grew w8 Z13 from Below.trans GZ12.out hB9)
                have HY := Lib.hid hy
                clear hy hB9 HP HQ
                refine hK.out _ _ GY.out (fun _ => ?_)
                clear hK K
                (try simp only [Act.put])
                refine wpAnyH_ready (rs := [16]) (by kernel_rfl) (by simp) ?_
                refine AllReadyH.cons (o := _) rfl (fun K hK => ?_) AllReadyH.nil
                refine step_of_listS ?_
                refine wpList_catFrG rfl _ _ rfl w8.heap.size vy ([] ++ A.take (k + 1) ++ [(f, .slice xa f.2.length xc)]) (A.drop (k + 1)) rfl HY.out _ rfl ((HA.out.drop (m := k + 1) (by omega) _ (by first | exact .inr rfl | exact .inl ⟨by omega, by rw [Nat.sub_self]; rfl⟩ | exact .inl ⟨by omega, by rw [Nat.sub_self, show A.length - (k + 1) = 0 by omega]; rfl⟩)).grew (GW8.out.trans GY.out)) (by simp; omega) GY.out.size ?_
                intro vz Z14 hz9 hB9 _
                have GZ := Lib.hid (show Grew w8 Z14 from Below.trans GY.out hB9)
                have HZ9 := Lib.hid hz9
                clear hz9 hB9 HY
                refine hK.out _ _ GZ.out (fun _ => ?_)
                clear hK K
                (try simp only [Act.put])
                refine wpAnyH_tail 17 rfl (by kernel_rfl) (by kernel_rfl) (fun q => GZ.out.trans (Drew.grew ⟨q, rfl⟩)) ?_
                simp only [List.drop_succ_cons, List.drop_zero]
                repeat (quiet_step (fail))
                refine wpQuiet_nil ?_
                rintro _ ⟨nq, rfl⟩
                have gq : Grew Z14 (Z14.drewN nq) := Drew.grew ⟨nq, rfl⟩
                go_wp2_with fail
                go_meet
                refine ⟨[] ++ A.take (k + 1) ++ [(f, .slice xa f.2.length xc)] ++ A.drop (k + 1), ⟨Sl.of_own (own_grew HZ9.out gq), fun x hx => ?_⟩, ?_, GZ.out.trans gq⟩
                · rw [List.nil_append] at hx
                  rcases List.mem_append.1 hx with hx | hx
                  · rcases List.mem_append.1 hx with hx | hx
                    · exact (HA.out.2 x (List.mem_of_mem_take hx)).grew ((GW8.out.trans GZ.out).trans gq)
                    · rw [List.mem_singleton.1 hx]; exact (X2.out.grew G8.out).grew (GZ.out.trans gq)
                  · exact (HA.out.2 x (List.mem_of_mem_drop hx)).grew ((GW8.out.trans GZ.out).trans gq)
                · unfold wantF; rw [if_pos rfl, List.nil_append]; simp [List.map_take, List.map_drop]
      · go_upto_region 14 with (fail)
        have hcc : rc = t ∨ ¬ rc = t := by omega
        rcases hcc with hck | hck
        · obtain rfl : t = rc := hck.symm
          refine wp_region_held_drew (S := fun V => Grew w8 V) (by kernel_rfl) (Drew.grew ⟨1, rfl⟩) (fun hHeld => ?_)
          have GZ0 := Lib.hid hHeld
          clear hHeld
          obtain ⟨Z0, hZ0⟩ : ∃ Z, Z = w8.drew := ⟨_, rfl⟩
          rw [← hZ0] at GZ0 ⊢
          clear hZ0
          refine wpAnyH_take (i := 1) (oi := _) (v := ?_) rfl (by kernel_rfl) (by kernel_rfl) (by kernel_rfl) (fun _ _ _ h => h) (Or.inl ⟨by rfl, ?_⟩) GZ0.out ?_
          rotate_left
          · (intro W hW; go_simp; try with_reducible rfl)
          (try simp only [Act.put, List.setIfInBounds_toArray])
          refine wpAnyH_take (i := 2) (oi := _) (v := ?_) rfl (by kernel_rfl) (by kernel_rfl) (by kernel_rfl) (fun _ _ _ h => h) (Or.inl ⟨by rfl, ?_⟩) GZ0.out ?_
          rotate_left
          · (intro W hW; go_simp; try with_reducible rfl)
          (try simp only [Act.put])
          refine wpAnyH_take (i := 3) (oi := _) (v := ?_) rfl (by kernel_rfl) (by kernel_rfl) (by kernel_rfl) (fun _ _ _ h => h) (Or.inl ⟨by rfl, ?_⟩) GZ0.out ?_
          rotate_left
          · (intro W hW; go_simp; try with_reducible rfl)
          (try simp only [Act.put])
          refine wpAnyH_take (i := 5) (oi := _) (v := ?_) rfl (by kernel_rfl) (by kernel_rfl) (by kernel_rfl) (fun _ _ _ h => h) (Or.inl ⟨by rfl, ?_⟩) GZ0.out ?_
          rotate_left
          · (intro W hW; go_simp; try with_reducible rfl)
          (try simp only [Act.put])
          refine wpAnyH_take (i := 6) (oi := _) (v := ?_) rfl (by kernel_rfl) (by kernel_rfl) (by kernel_rfl) (fun _ _ _ h => h) (Or.inl ⟨by rfl, ?_⟩) GZ0.out ?_
          rotate_left
          · (intro W hW; go_simp; try with_reducible rfl)
          (try simp only [Act.put])
          refine wpAnyH_take (i := 7) (oi := _) (v := ?_) rfl (by kernel_rfl) (by kernel_rfl) (by kernel_rfl) (fun _ _ _ h => h) (Or.inl ⟨by rfl, ?_⟩) GZ0.out ?_
          rotate_left
          · (intro W hW; go_simp; try with_reducible rfl)
          (try simp only [Act.put])
          refine wpAnyH_take (i := 8) (oi := _) (v := ?_) rfl (by kernel_rfl) (by kernel_rfl) (by kernel_rfl) (fun _ _ _ h => h) (Or.inl ⟨by rfl, ?_⟩) GZ0.out ?_
          rotate_left
          · (intro W hW; have y0 := below_ext (G8.out.trans hW) _ _ X0.out; have y1 := below_ext (G8.out.trans hW) _ _ X1.out; go_simp; try with_reducible rfl)
          (try simp only [Act.put])
          refine wpAnyH_take (i := 11) (oi := _) (v := ?_) rfl (by kernel_rfl) (by kernel_rfl) (by kernel_rfl) (fun _ _ _ h => h) (Or.inl ⟨by rfl, ?_⟩) GZ0.out ?_
          rotate_left
          · (intro W hW; go_simp; try with_reducible rfl)
          (try simp only [Act.put])
          refine wpAnyH_take (i := 12) (oi := _) (v := ?_) rfl (by kernel_rfl) (by kernel_rfl) (by kernel_rfl) (fun _ _ _ h => h) (Or.inl ⟨by rfl, ?_⟩) GZ0.out ?_
          rotate_left
          · (intro W hW; go_simp; try with_reducible rfl)
          (try simp only [Act.put])
          refine wpAnyH_take (i := 13) (oi := _) (v := ?_) rfl (by kernel_rfl) (by kernel_rfl) (by kernel_rfl) (fun _ _ _ h => h) (Or.inl ⟨by rfl, ?_⟩) GZ0.out ?_
          rotate_left
          · (intro W hW; go_simp; try with_reducible rfl)
          (try simp only [Act.put])
          refine wpAnyH_ready (rs := [0, 9]) (by kernel_rfl) (by simp) ?_
          refine AllReadyH.cons (o := _) rfl (fun K hK => ?_) (AllReadyH.cons (o := _) rfl (fun K hK => ?_) AllReadyH.nil)
          · skip
            go_simp
            obtain ⟨Z15, hZ15⟩ : ∃ V, V = Z0.alloc (.cells #[] 29) := ⟨_, rfl⟩
            have gx : Grew Z0 Z15 := by rw [hZ15]; exact grew_alloc _ _
            have GZ15 := Lib.hid (show Grew w8 Z15 from GZ0.out.trans gx)
            have HP := Lib.hid (show OwnFr Z15 w8.heap.size (.slice (some ⟨Z0.heap.size, 0, none⟩) 0 0) [] by rw [hZ15]; exact World.ownsRow_lit Z0 #[] 0 GZ0.out.size (Nat.zero_le _) rfl)
            have HZL := Lib.hid (show Z0.heap.size < Z15.heap.size by rw [hZ15]; simp)
            rw [← hZ15]
            clear hZ15 gx
            refine hK.out _ _ GZ15.out (fun _ => ?_)
            clear hK K
            (try simp only [Act.put, List.setIfInBounds_toArray, List.set_cons_zero, List.set_cons_succ])
            refine wpAnyH_ready (rs := [4, 9]) (by kernel_rfl) (by simp) ?_
            refine AllReadyH.cons (o := _) rfl (fun K hK => ?_) (AllReadyH.cons (o := _) rfl (fun K hK => ?_) AllReadyH.nil)
            · skip
              refine step_of_listS ?_
              refine wpList_catFrG rfl _ _ rfl w8.heap.size (.slice (some ⟨Z0.heap.size, 0, none⟩) 0 0) [] (B.take t) rfl HP.out _ rfl ((FB.out.take htl).grew GZ15.out) (by simp; omega) GZ15.out.size ?_
              intro vx16 Z16 hx9 hB9 hg9
              have GZ16 := Lib.hid (show Grew w8 Z16 from Below.trans GZ15.out hB9)
              have HPn := Lib.hid hx9
              clear HP hx9 hB9 hg9
              have HP := HPn
              clear HPn
              refine hK.out _ _ GZ16.out (fun _ => ?_)
              clear hK K
              (try simp only [Act.put, List.setIfInBounds_toArray])
              refine wpAnyH_ready (rs := [9]) (by kernel_rfl) (by simp) ?_
              refine AllReadyH.cons (o := _) rfl (fun K hK => ?_) AllReadyH.nil
              · skip
                go_simp
                obtain ⟨Z17, hZ17⟩ : ∃ V, V = Z16.alloc (.cells #[.int .u8 (f.1.toNat : Int), .slice xa f.2.length xc] 29) := ⟨_, rfl⟩
                have gx : Grew Z16 Z17 := by rw [hZ17]; exact grew_alloc _ _
                have GZ17 := Lib.hid (show Grew w8 Z17 from GZ16.out.trans gx)
                have HPn := Lib.hid (own_grew HP.out gx)
                clear HP
                have HP := HPn
                clear HPn
                have HQ := Lib.hid (show Blk Z17 Z16.heap.size 29 #[.int .u8 (f.1.toNat : Int), .slice xa f.2.length xc] by rw [hZ17]; exact Blk.new _ _ _)
                rw [← hZ17]
                clear hZ17 gx
                refine hK.out _ _ GZ17.out (fun _ => ?_)
                clear hK K
                (try simp only [Act.put, List.setIfInBounds_toArray, List.set_cons_zero, List.set_cons_succ])
                refine wpAnyH_ready (rs := [10]) (by kernel_rfl) (by simp) ?_
                refine AllReadyH.cons (o := _) rfl (fun K hK => ?_) AllReadyH.nil
                refine step_of_listS ?_
                refine wpList_catFrG rfl _ _ rfl w8.heap.size vx16 ([] ++ B.take t) [(f, .slice xa f.2.length xc)] rfl HP.out _ rfl (fsr_one HQ.out ((X2.out.grew G8.out).grew GZ17.out)) (by simp; omega) GZ17.out.size ?_
                intro vy Z18 hy hB9 _
                have GY := Lib.hid (show Grew w8 Z18 from Below.trans GZ17.out hB9)
                have HY := Lib.hid hy
                clear hy hB9 HP HQ
                refine hK.out _ _ GY.out (fun _ => ?_)
                clear hK K
                (try simp only [Act.put, List.setIfInBounds_toArray])
                refine wpAnyH_ready (rs := [14]) (by kernel_rfl) (by simp) ?_
                refine AllReadyH.cons (o := _) rfl (fun K hK => ?_) AllReadyH.nil
                refine step_of_listS ?_
                refine wpList_catFrG rfl _ _ rfl w8.heap.size vy ([] ++ B.take t ++ [(f, .slice xa f.2.length xc)]) (B.drop t) rfl HY.out _ rfl ((FB.out.drop (m := t) htl _ (by first | exact .inr rfl | exact .inl ⟨by omega, by rw [Nat.sub_self]; rfl⟩ | exact .inl ⟨by omega, by rw [Nat.sub_self, show B.length - t = 0 by omega]; rfl⟩)).grew GY.out) (by simp; omega) GY.out.size ?_
                intro vz Z19 hz9 hB9 _
                have GZ := Lib.hid (show Grew w8 Z19 from Below.trans GY.out hB9)
                have HZ9 := Lib.hid hz9
                clear hz9 hB9 HY
                refine hK.out _ _ GZ.out (fun _ => ?_)
                clear hK K
                (try simp only [Act.put])
                refine wpAnyH_tail 15 rfl (by kernel_rfl) (by kernel_rfl) (fun q => GZ.out.trans (Drew.grew ⟨q, rfl⟩)) ?_
                simp only [List.drop_succ_cons, List.drop_zero]
                repeat (quiet_step (fail))
                refine wpQuiet_nil ?_
                rintro _ ⟨nq, rfl⟩
                have gq : Grew Z19 (Z19.drewN nq) := Drew.grew ⟨nq, rfl⟩
                go_wp2_with fail
                go_meet
                refine ⟨[] ++ B.take t ++ [(f, .slice xa f.2.length xc)] ++ B.drop t, ⟨Sl.of_own (own_grew HZ9.out gq), fun x hx => ?_⟩, ?_, GZ.out.trans gq⟩
                · rw [List.nil_append] at hx
                  rcases List.mem_append.1 hx with hx | hx
                  · rcases List.mem_append.1 hx with hx | hx
                    · exact (FB.out.2 x (List.mem_of_mem_take hx)).grew (GZ.out.trans gq)
                    · rw [List.mem_singleton.1 hx]; exact (X2.out.grew G8.out).grew (GZ.out.trans gq)
                  · exact (FB.out.2 x (List.mem_of_mem_drop hx)).grew (GZ.out.trans gq)
                · unfold wantF; rw [if_neg (by decide), if_pos rfl, List.nil_append, ← EB.out]; simp [List.map_take, List.map_drop]
            · skip
              go_simp
              obtain ⟨Z20, hZ20⟩ : ∃ V, V = Z15.alloc (.cells #[.int .u8 (f.1.toNat : Int), .slice xa f.2.length xc] 29) := ⟨_, rfl⟩
              have gx : Grew Z15 Z20 := by rw [hZ20]; exact grew_alloc _ _
              have GZ20 := Lib.hid (show Grew w8 Z20 from GZ15.out.trans gx)
              have HNE := Lib.hid (show Z15.heap.size ≠ Z0.heap.size by have := HZL.out; omega)
              have HPn := Lib.hid (own_grew HP.out gx)
              clear HP
              have HP := HPn
              clear HPn
              have HQ := Lib.hid (show Blk Z20 Z15.heap.size 29 #[.int .u8 (f.1.toNat : Int), .slice xa f.2.length xc] by rw [hZ20]; exact Blk.new _ _ _)
              rw [← hZ20]
              clear hZ20 gx
              refine hK.out _ _ GZ20.out (fun _ => ?_)
              clear hK K
              (try simp only [Act.put, List.setIfInBounds_toArray, List.set_cons_zero, List.set_cons_succ])
              refine wpAnyH_ready (rs := [4]) (by kernel_rfl) (by simp) ?_
              refine AllReadyH.cons (o := _) rfl (fun K hK => ?_) AllReadyH.nil
              · skip
                refine step_of_listS ?_
                refine wpList_catFrG rfl _ _ rfl w8.heap.size (.slice (some ⟨Z0.heap.size, 0, none⟩) 0 0) [] (B.take t) rfl HP.out _ rfl ((FB.out.take htl).grew GZ20.out) (by simp; omega) GZ20.out.size ?_
                intro vx21 Z21 hx9 hB9 hg9
                have GZ21 := Lib.hid (show Grew w8 Z21 from Below.trans GZ20.out hB9)
                have HQn := Lib.hid (HQ.out.kept hg9 (fun e => HNE.out (by simpa [Value.ownBlock] using e)))
                clear HQ
                have HQ := HQn
                clear HQn
                have HPn := Lib.hid hx9
                clear HP hx9 hB9 hg9
                have HP := HPn
                clear HPn
                refine hK.out _ _ GZ21.out (fun _ => ?_)
                clear hK K
                (try simp only [Act.put, List.setIfInBounds_toArray])
                refine wpAnyH_ready (rs := [10]) (by kernel_rfl) (by simp) ?_
                refine AllReadyH.cons (o := _) rfl (fun K hK => ?_) AllReadyH.nil
                refine step_of_listS ?_
                refine wpList_catFrG rfl _ _ rfl w8.heap.size vx21 ([] ++ B.take t) [(f, .slice xa f.2.length xc)] rfl HP.out _ rfl (fsr_one HQ.out ((X2.out.grew G8.out).grew GZ21.out)) (by simp; omega) GZ21.out.size ?_
                intro vy Z22 hy hB9 _
                have GY := Lib.hid (show Grew w8 Z22 from Below.trans GZ21.out hB9)
                have HY := Lib.hid hy
                clear hy hB9 HP HQ
                refine hK.out _ _ GY.out (fun _ => ?_)
                clear hK K
                (try simp only [Act.put])
                refine wpAnyH_ready (rs := [14]) (by kernel_rfl) (by simp) ?_
                refine AllReadyH.cons (o := _) rfl (fun K hK => ?_) AllReadyH.nil
                refine step_of_listS ?_
                refine wpList_catFrG rfl _ _ rfl w8.heap.size vy ([] ++ B.take t ++ [(f, .slice xa f.2.length xc)]) (B.drop t) rfl HY.out _ rfl ((FB.out.drop (m := t) htl _ (by first | exact .inr rfl | exact .inl ⟨by omega, by rw [Nat.sub_self]; rfl⟩ | exact .inl ⟨by omega, by rw [Nat.sub_self, show B.length - t = 0 by omega]; rfl⟩)).grew GY.out) (by simp; omega) GY.out.size ?_
                intro vz Z23 hz9 hB9 _
                have GZ := Lib.hid (show Grew w8 Z23 from Below.trans GY.out hB9)
                have HZ9 := Lib.hid hz9
                clear hz9 hB9 HY
                refine hK.out _ _ GZ.out (fun _ => ?_)
                clear hK K
                (try simp only [Act.put])
                refine wpAnyH_tail 15 rfl (by kernel_rfl) (by kernel_rfl) (fun q => GZ.out.trans (Drew.grew ⟨q, rfl⟩)) ?_
                simp only [List.drop_succ_cons, List.drop_zero]
                repeat (quiet_step (fail))
                refine wpQuiet_nil ?_
                rintro _ ⟨nq, rfl⟩
                have gq : Grew Z23 (Z23.drewN nq) := Drew.grew ⟨nq, rfl⟩
                go_wp2_with fail
                go_meet
                refine ⟨[] ++ B.take t ++ [(f, .slice xa f.2.length xc)] ++ B.drop t, ⟨Sl.of_own (own_grew HZ9.out gq), fun x hx => ?_⟩, ?_, GZ.out.trans gq⟩
                · rw [List.nil_append] at hx
                  rcases List.mem_append.1 hx with hx | hx
                  · rcases List.mem_append.1 hx with hx | hx
                    · exact (FB.out.2 x (List.mem_of_mem_take hx)).grew (GZ.out.trans gq)
                    · rw [List.mem_singleton.1 hx]; exact (X2.out.grew G8.out).grew (GZ.out.trans gq)
                  · exact (FB.out.2 x (List.mem_of_mem_drop hx)).grew (GZ.out.trans gq)
                · unfold wantF; rw [if_neg (by decide), if_pos rfl, List.nil_append, ← EB.out]; simp [List.map_take, List.map_drop]
          · skip
            go_simp
            obtain ⟨Z24, hZ24⟩ : ∃ V, V = Z0.alloc (.cells #[.int .u8 (f.1.toNat : Int), .slice xa f.2.length xc] 29) := ⟨_, rfl⟩
            have gx : Grew Z0 Z24 := by rw [hZ24]; exact grew_alloc _ _
            have GZ24 := Lib.hid (show Grew w8 Z24 from GZ0.out.trans gx)
            have HQ := Lib.hid (show Blk Z24 Z0.heap.size 29 #[.int .u8 (f.1.toNat : Int), .slice xa f.2.length xc] by rw [hZ24]; exact Blk.new _ _ _)
            rw [← hZ24]
            clear hZ24 gx
            refine hK.out _ _ GZ24.out (fun _ => ?_)
            clear hK K
            (try simp only [Act.put, List.setIfInBounds_toArray, List.set_cons_zero, List.set_cons_succ])
            refine wpAnyH_ready (rs := [0]) (by kernel_rfl) (by simp) ?_
            refine AllReadyH.cons (o := _) rfl (fun K hK => ?_) AllReadyH.nil
            · skip
              go_simp
              obtain ⟨Z25, hZ25⟩ : ∃ V, V = Z24.alloc (.cells #[] 29) := ⟨_, rfl⟩
              have gx : Grew Z24 Z25 := by rw [hZ25]; exact grew_alloc _ _
              have GZ25 := Lib.hid (show Grew w8 Z25 from GZ24.out.trans gx)
              have HNE := Lib.hid (show Z0.heap.size ≠ Z24.heap.size by have := HQ.out.lt; omega)
              have HQn := Lib.hid (HQ.out.grew gx)
              clear HQ
              have HQ := HQn
              clear HQn
              have HP := Lib.hid (show OwnFr Z25 w8.heap.size (.slice (some ⟨Z24.heap.size, 0, none⟩) 0 0) [] by rw [hZ25]; exact World.ownsRow_lit Z24 #[] 0 GZ24.out.size (Nat.zero_le _) rfl)
              have HZL := Lib.hid (show Z24.heap.size < Z25.heap.size by rw [hZ25]; simp)
              rw [← hZ25]
              clear hZ25 gx
              refine hK.out _ _ GZ25.out (fun _ => ?_)
              clear hK K
              (try simp only [Act.put, List.setIfInBounds_toArray, List.set_cons_zero, List.set_cons_succ])
              refine wpAnyH_ready (rs := [4]) (by kernel_rfl) (by simp) ?_
              refine AllReadyH.cons (o := _) rfl (fun K hK => ?_) AllReadyH.nil
              · skip
                refine step_of_listS ?_
                refine wpList_catFrG rfl _ _ rfl w8.heap.size (.slice (some ⟨Z24.heap.size, 0, none⟩) 0 0) [] (B.take t) rfl HP.out _ rfl ((FB.out.take htl).grew GZ25.out) (by simp; omega) GZ25.out.size ?_
                intro vx26 Z26 hx9 hB9 hg9
                have GZ26 := Lib.hid (show Grew w8 Z26 from Below.trans GZ25.out hB9)
                have HQn := Lib.hid (HQ.out.kept hg9 (fun e => HNE.out (by simpa [Value.ownBlock] using e)))
                clear HQ
                have HQ := HQn
                clear HQn
                have HPn := Lib.hid hx9
                clear HP hx9 hB9 hg9
                have HP := HPn
                clear HPn
                refine hK.out _ _ GZ26.out (fun _ => ?_)
                clear hK K
                (try simp only [Act.put, List.setIfInBounds_toArray])
                refine wpAnyH_ready (rs := [10]) (by kernel_rfl) (by simp) ?_
                refine AllReadyH.cons (o := _) rfl (fun K hK => ?_) AllReadyH.nil
                refine step_of_listS ?_
                refine wpList_catFrG rfl _ _ rfl w8.heap.size vx26 ([] ++ B.take t) [(f, .slice xa f.2.length xc)] rfl HP.out _ rfl (fsr_one HQ.out ((X2.out.grew G8.out).grew GZ26.out)) (by simp; omega) GZ26.out.size ?_
                intro vy Z27 hy hB9 _
                have GY := Lib.hid (show Grew w8 Z27 from Below.trans GZ26.out hB9)
                have HY := Lib.hid hy
                clear hy hB9 HP HQ
                refine hK.out _ _ GY.out (fun _ => ?_)
                clear hK K
                (try simp only [Act.put])
                refine wpAnyH_ready (rs := [14]) (by kernel_rfl) (by simp) ?_
                refine AllReadyH.cons (o := _) rfl (fun K hK => ?_) AllReadyH.nil
                refine step_of_listS ?_
                refine wpList_catFrG rfl _ _ rfl w8.heap.size vy ([] ++ B.take t ++ [(f, .slice xa f.2.length xc)]) (B.drop t) rfl HY.out _ rfl ((FB.out.drop (m := t) htl _ (by first | exact .inr rfl | exact .inl ⟨by omega, by rw [Nat.sub_self]; rfl⟩ | exact .inl ⟨by omega, by rw [Nat.sub_self, show B.length - t = 0 by omega]; rfl⟩)).grew GY.out) (by simp; omega) GY.out.size ?_
                intro vz Z28 hz9 hB9 _
                have GZ := Lib.hid (show Grew w8 Z28 from Below.trans GY.out hB9)
                have HZ9 := Lib.hid hz9
                clear hz9 hB9 HY
                refine hK.out _ _ GZ.out (fun _ => ?_)
                clear hK K
                (try simp only [Act.put])
                refine wpAnyH_tail 15 rfl (by kernel_rfl) (by kernel_rfl) (fun q => GZ.out.trans (Drew.grew ⟨q, rfl⟩)) ?_
                simp only [List.drop_succ_cons, List.drop_zero]
                repeat (quiet_step (fail))
                refine wpQuiet_nil ?_
                rintro _ ⟨nq, rfl⟩
                have gq : Grew Z28 (Z28.drewN nq) := Drew.grew ⟨nq, rfl⟩
                go_wp2_with fail
                go_meet
                refine ⟨[] ++ B.take t ++ [(f, .slice xa f.2.length xc)] ++ B.drop t, ⟨Sl.of_own (own_grew HZ9.out gq), fun x hx => ?_⟩, ?_, GZ.out.trans gq⟩
                · rw [List.nil_append] at hx
                  rcases List.mem_append.1 hx with hx | hx
                  · rcases List.mem_append.1 hx with hx | hx
                    · exact (FB.out.2 x (List.mem_of_mem_take hx)).grew (GZ.out.trans gq)
                    · rw [List.mem_singleton.1 hx]; exact (X2.out.grew G8.out).grew (GZ.out.trans gq)
                  · exact (FB.out.2 x (List.mem_of_mem_drop hx)).grew (GZ.out.trans gq)
                · unfold wantF; rw [if_neg (by decide), if_pos rfl, List.nil_append, ← EB.out]; simp [List.map_take, List.map_drop]
        · refine wp_region_held_drew (S := fun V => Grew w8 V) (by kernel_rfl) (Drew.grew ⟨1, rfl⟩) (fun hHeld => ?_)
          have GZ0 := Lib.hid hHeld
          clear hHeld
          obtain ⟨Z0, hZ0⟩ : ∃ Z, Z = w8.drew := ⟨_, rfl⟩
          rw [← hZ0] at GZ0 ⊢
          clear hZ0
          refine wpAnyH_take (i := 1) (oi := _) (v := ?_) rfl (by kernel_rfl) (by kernel_rfl) (by kernel_rfl) (fun _ _ _ h => h) (Or.inl ⟨by rfl, ?_⟩) GZ0.out ?_
          rotate_left
          · (intro W hW; go_simp; try with_reducible rfl)
          (try simp only [Act.put, List.setIfInBounds_toArray])
          refine wpAnyH_take (i := 2) (oi := _) (v := ?_) rfl (by kernel_rfl) (by kernel_rfl) (by kernel_rfl) (fun _ _ _ h => h) (Or.inl ⟨by rfl, ?_⟩) GZ0.out ?_
          rotate_left
          · (intro W hW; go_simp; try with_reducible rfl)
          (try simp only [Act.put])
          refine wpAnyH_take (i := 3) (oi := _) (v := ?_) rfl (by kernel_rfl) (by kernel_rfl) (by kernel_rfl) (fun _ _ _ h => h) (Or.inl ⟨by rfl, ?_⟩) GZ0.out ?_
          rotate_left
          · (intro W hW; go_simp; try with_reducible rfl)
          (try simp only [Act.put])
          refine wpAnyH_take (i := 5) (oi := _) (v := ?_) rfl (by kernel_rfl) (by kernel_rfl) (by kernel_rfl) (fun _ _ _ h => h) (Or.inl ⟨by rfl, ?_⟩) GZ0.out ?_
          rotate_left
          · (intro W hW; go_simp; try with_reducible rfl)
          (try simp only [Act.put])
          refine wpAnyH_take (i := 6) (oi := _) (v := ?_) rfl (by kernel_rfl) (by kernel_rfl) (by kernel_rfl) (fun _ _ _ h => h) (Or.inl ⟨by rfl, ?_⟩) GZ0.out ?_
          rotate_left
          · (intro W hW; go_simp; try with_reducible rfl)
          (try simp only [Act.put])
          refine wpAnyH_take (i := 7) (oi := _) (v := ?_) rfl (by kernel_rfl) (by kernel_rfl) (by kernel_rfl) (fun _ _ _ h => h) (Or.inl ⟨by rfl, ?_⟩) GZ0.out ?_
          rotate_left
          · (intro W hW; go_simp; try with_reducible rfl)
          (try simp only [Act.put])
          refine wpAnyH_take (i := 8) (oi := _) (v := ?_) rfl (by kernel_rfl) (by kernel_rfl) (by kernel_rfl) (fun _ _ _ h => h) (Or.inl ⟨by rfl, ?_⟩) GZ0.out ?_
          rotate_left
          · (intro W hW; have y0 := below_ext (G8.out.trans hW) _ _ X0.out; have y1 := below_ext (G8.out.trans hW) _ _ X1.out; go_simp; try with_reducible rfl)
          (try simp only [Act.put])
          refine wpAnyH_take (i := 11) (oi := _) (v := ?_) rfl (by kernel_rfl) (by kernel_rfl) (by kernel_rfl) (fun _ _ _ h => h) (Or.inl ⟨by rfl, ?_⟩) GZ0.out ?_
          rotate_left
          · (intro W hW; go_simp; try with_reducible rfl)
          (try simp only [Act.put])
          refine wpAnyH_take (i := 12) (oi := _) (v := ?_) rfl (by kernel_rfl) (by kernel_rfl) (by kernel_rfl) (fun _ _ _ h => h) (Or.inl ⟨by rfl, ?_⟩) GZ0.out ?_
          rotate_left
          · (intro W hW; go_simp; try with_reducible rfl)
          (try simp only [Act.put])
          refine wpAnyH_take (i := 13) (oi := _) (v := ?_) rfl (by kernel_rfl) (by kernel_rfl) (by kernel_rfl) (fun _ _ _ h => h) (Or.inl ⟨by rfl, ?_⟩) GZ0.out ?_
          rotate_left
          · (intro W hW; go_simp; try with_reducible rfl)
          (try simp only [Act.put])
          refine wpAnyH_ready (rs := [0, 9]) (by kernel_rfl) (by simp) ?_
          refine AllReadyH.cons (o := _) rfl (fun K hK => ?_) (AllReadyH.cons (o := _) rfl (fun K hK => ?_) AllReadyH.nil)
          · skip
            go_simp
            obtain ⟨Z15, hZ15⟩ : ∃ V, V = Z0.alloc (.cells #[] 29) := ⟨_, rfl⟩
            have gx : Grew Z0 Z15 := by rw [hZ15]; exact grew_alloc _ _
            have GZ15 := Lib.hid (show Grew w8 Z15 from GZ0.out.trans gx)
            have HP := Lib.hid (show OwnFr Z15 w8.heap.size (.slice (some ⟨Z0.heap.size, 0, none⟩) 0 0) [] by rw [hZ15]; exact World.ownsRow_lit Z0 #[] 0 GZ0.out.size (Nat.zero_le _) rfl)
            have HZL := Lib.hid (show Z0.heap.size < Z15.heap.size by rw [hZ15]; simp)
            rw [← hZ15]
            clear hZ15 gx
            refine hK.out _ _ GZ15.out (fun _ => ?_)
            clear hK K
            (try simp only [Act.put, List.setIfInBounds_toArray, List.set_cons_zero, List.set_cons_succ])
            refine wpAnyH_ready (rs := [4, 9]) (by kernel_rfl) (by simp) ?_
            refine AllReadyH.cons (o := _) rfl (fun K hK => ?_) (AllReadyH.cons (o := _) rfl (fun K hK => ?_) AllReadyH.nil)
            · skip
              refine step_of_listS ?_
              refine wpList_catFrG rfl _ _ rfl w8.heap.size (.slice (some ⟨Z0.heap.size, 0, none⟩) 0 0) [] (B.take t) rfl HP.out _ rfl ((FB.out.take htl).grew GZ15.out) (by simp; omega) GZ15.out.size ?_
              intro vx16 Z16 hx9 hB9 hg9
              have GZ16 := Lib.hid (show Grew w8 Z16 from Below.trans GZ15.out hB9)
              have HPn := Lib.hid hx9
              clear HP hx9 hB9 hg9
              have HP := HPn
              clear HPn
              refine hK.out _ _ GZ16.out (fun _ => ?_)
              clear hK K
              (try simp only [Act.put, List.setIfInBounds_toArray])
              refine wpAnyH_ready (rs := [9]) (by kernel_rfl) (by simp) ?_
              refine AllReadyH.cons (o := _) rfl (fun K hK => ?_) AllReadyH.nil
              · skip
                go_simp
                obtain ⟨Z17, hZ17⟩ : ∃ V, V = Z16.alloc (.cells #[.int .u8 (f.1.toNat : Int), .slice xa f.2.length xc] 29) := ⟨_, rfl⟩
                have gx : Grew Z16 Z17 := by rw [hZ17]; exact grew_alloc _ _
                have GZ17 := Lib.hid (show Grew w8 Z17 from GZ16.out.trans gx)
                have HPn := Lib.hid (own_grew HP.out gx)
                clear HP
                have HP := HPn
                clear HPn
                have HQ := Lib.hid (show Blk Z17 Z16.heap.size 29 #[.int .u8 (f.1.toNat : Int), .slice xa f.2.length xc] by rw [hZ17]; exact Blk.new _ _ _)
                rw [← hZ17]
                clear hZ17 gx
                refine hK.out _ _ GZ17.out (fun _ => ?_)
                clear hK K
                (try simp only [Act.put, List.setIfInBounds_toArray, List.set_cons_zero, List.set_cons_succ])
                refine wpAnyH_ready (rs := [10]) (by kernel_rfl) (by simp) ?_
                refine AllReadyH.cons (o := _) rfl (fun K hK => ?_) AllReadyH.nil
                refine step_of_listS ?_
                refine wpList_catFrG rfl _ _ rfl w8.heap.size vx16 ([] ++ B.take t) [(f, .slice xa f.2.length xc)] rfl HP.out _ rfl (fsr_one HQ.out ((X2.out.grew G8.out).grew GZ17.out)) (by simp; omega) GZ17.out.size ?_
                intro vy Z18 hy hB9 _
                have GY := Lib.hid (show Grew w8 Z18 from Below.trans GZ17.out hB9)
                have HY := Lib.hid hy
                clear hy hB9 HP HQ
                refine hK.out _ _ GY.out (fun _ => ?_)
                clear hK K
                (try simp only [Act.put, List.setIfInBounds_toArray])
                refine wpAnyH_ready (rs := [14]) (by kernel_rfl) (by simp) ?_
                refine AllReadyH.cons (o := _) rfl (fun K hK => ?_) AllReadyH.nil
                refine step_of_listS ?_
                refine wpList_catFrG rfl _ _ rfl w8.heap.size vy ([] ++ B.take t ++ [(f, .slice xa f.2.length xc)]) (B.drop t) rfl HY.out _ rfl ((FB.out.drop (m := t) htl _ (by first | exact .inr rfl | exact .inl ⟨by omega, by rw [Nat.sub_self]; rfl⟩ | exact .inl ⟨by omega, by rw [Nat.sub_self, show B.length - t = 0 by omega]; rfl⟩)).grew GY.out) (by simp; omega) GY.out.size ?_
                intro vz Z19 hz9 hB9 _
                have GZ := Lib.hid (show Grew w8 Z19 from Below.trans GY.out hB9)
                have HZ9 := Lib.hid hz9
                clear hz9 hB9 HY
                refine hK.out _ _ GZ.out (fun _ => ?_)
                clear hK K
                (try simp only [Act.put])
                refine wpAnyH_tail 15 rfl (by kernel_rfl) (by kernel_rfl) (fun q => GZ.out.trans (Drew.grew ⟨q, rfl⟩)) ?_
                simp only [List.drop_succ_cons, List.drop_zero]
                repeat (quiet_step (fail))
                refine wpQuiet_nil ?_
                rintro _ ⟨nq, rfl⟩
                have gq : Grew Z19 (Z19.drewN nq) := Drew.grew ⟨nq, rfl⟩
                go_wp2_with fail
                go_meet
                refine ⟨[] ++ B.take t ++ [(f, .slice xa f.2.length xc)] ++ B.drop t, ⟨Sl.of_own (own_grew HZ9.out gq), fun x hx => ?_⟩, ?_, GZ.out.trans gq⟩
                · rw [List.nil_append] at hx
                  rcases List.mem_append.1 hx with hx | hx
                  · rcases List.mem_append.1 hx with hx | hx
                    · exact (FB.out.2 x (List.mem_of_mem_take hx)).grew (GZ.out.trans gq)
                    · rw [List.mem_singleton.1 hx]; exact (X2.out.grew G8.out).grew (GZ.out.trans gq)
                  · exact (FB.out.2 x (List.mem_of_mem_drop hx)).grew (GZ.out.trans gq)
                · unfold wantF; rw [if_neg (by decide), if_pos rfl, List.nil_append, ← EB.out]; simp [List.map_take, List.map_drop]
            · skip
              go_simp
              obtain ⟨Z20, hZ20⟩ : ∃ V, V = Z15.alloc (.cells #[.int .u8 (f.1.toNat : Int), .slice xa f.2.length xc] 29) := ⟨_, rfl⟩
              have gx : Grew Z15 Z20 := by rw [hZ20]; exact grew_alloc _ _
              have GZ20 := Lib.hid (show Grew w8 Z20 from GZ15.out.trans gx)
              have HNE := Lib.hid (show Z15.heap.size ≠ Z0.heap.size by have := HZL.out; omega)
              have HPn := Lib.hid (own_grew HP.out gx)
              clear HP
              have HP := HPn
              clear HPn
              have HQ := Lib.hid (show Blk Z20 Z15.heap.size 29 #[.int .u8 (f.1.toNat : Int), .slice xa f.2.length xc] by rw [hZ20]; exact Blk.new _ _ _)
              rw [← hZ20]
              clear hZ20 gx
              refine hK.out _ _ GZ20.out (fun _ => ?_)
              clear hK K
              (try simp only [Act.put, List.setIfInBounds_toArray, List.set_cons_zero, List.set_cons_succ])
              refine wpAnyH_ready (rs := [4]) (by kernel_rfl) (by simp) ?_
              refine AllReadyH.cons (o := _) rfl (fun K hK => ?_) AllReadyH.nil
              · skip
                refine step_of_listS ?_
                refine wpList_catFrG rfl _ _ rfl w8.heap.size (.slice (some ⟨Z0.heap.size, 0, none⟩) 0 0) [] (B.take t) rfl HP.out _ rfl ((FB.out.take htl).grew GZ20.out) (by simp; omega) GZ20.out.size ?_
                intro vx21 Z21 hx9 hB9 hg9
                have GZ21 := Lib.hid (show Grew w8 Z21 from Below.trans GZ20.out hB9)
                have HQn := Lib.hid (HQ.out.kept hg9 (fun e => HNE.out (by simpa [Value.ownBlock] using e)))
                clear HQ
                have HQ := HQn
                clear HQn
                have HPn := Lib.hid hx9
                clear HP hx9 hB9 hg9
                have HP := HPn
                clear HPn
                refine hK.out _ _ GZ21.out (fun _ => ?_)
                clear hK K
                (try simp only [Act.put, List.setIfInBounds_toArray])
                refine wpAnyH_ready (rs := [10]) (by kernel_rfl) (by simp) ?_
                refine AllReadyH.cons (o := _) rfl (fun K hK => ?_) AllReadyH.nil
                refine step_of_listS ?_
                refine wpList_catFrG rfl _ _ rfl w8.heap.size vx21 ([] ++ B.take t) [(f, .slice xa f.2.length xc)] rfl HP.out _ rfl (fsr_one HQ.out ((X2.out.grew G8.out).grew GZ21.out)) (by simp; omega) GZ21.out.size ?_
                intro vy Z22 hy hB9 _
                have GY := Lib.hid (show Grew w8 Z22 from Below.trans GZ21.out hB9)
                have HY := Lib.hid hy
                clear hy hB9 HP HQ
                refine hK.out _ _ GY.out (fun _ => ?_)
                clear hK K
                (try simp only [Act.put])
                refine wpAnyH_ready (rs := [14]) (by kernel_rfl) (by simp) ?_
                refine AllReadyH.cons (o := _) rfl (fun K hK => ?_) AllReadyH.nil
                refine step_of_listS ?_
                refine wpList_catFrG rfl _ _ rfl w8.heap.size vy ([] ++ B.take t ++ [(f, .slice xa f.2.length xc)]) (B.drop t) rfl HY.out _ rfl ((FB.out.drop (m := t) htl _ (by first | exact .inr rfl | exact .inl ⟨by omega, by rw [Nat.sub_self]; rfl⟩ | exact .inl ⟨by omega, by rw [Nat.sub_self, show B.length - t = 0 by omega]; rfl⟩)).grew GY.out) (by simp; omega) GY.out.size ?_
                intro vz Z23 hz9 hB9 _
                have GZ := Lib.hid (show Grew w8 Z23 from Below.trans GY.out hB9)
                have HZ9 := Lib.hid hz9
                clear hz9 hB9 HY
                refine hK.out _ _ GZ.out (fun _ => ?_)
                clear hK K
                (try simp only [Act.put])
                refine wpAnyH_tail 15 rfl (by kernel_rfl) (by kernel_rfl) (fun q => GZ.out.trans (Drew.grew ⟨q, rfl⟩)) ?_
                simp only [List.drop_succ_cons, List.drop_zero]
                repeat (quiet_step (fail))
                refine wpQuiet_nil ?_
                rintro _ ⟨nq, rfl⟩
                have gq : Grew Z23 (Z23.drewN nq) := Drew.grew ⟨nq, rfl⟩
                go_wp2_with fail
                go_meet
                refine ⟨[] ++ B.take t ++ [(f, .slice xa f.2.length xc)] ++ B.drop t, ⟨Sl.of_own (own_grew HZ9.out gq), fun x hx => ?_⟩, ?_, GZ.out.trans gq⟩
                · rw [List.nil_append] at hx
                  rcases List.mem_append.1 hx with hx | hx
                  · rcases List.mem_append.1 hx with hx | hx
                    · exact (FB.out.2 x (List.mem_of_mem_take hx)).grew (GZ.out.trans gq)
                    · rw [List.mem_singleton.1 hx]; exact (X2.out.grew G8.out).grew (GZ.out.trans gq)
                  · exact (FB.out.2 x (List.mem_of_mem_drop hx)).grew (GZ.out.trans gq)
                · unfold wantF; rw [if_neg (by decide), if_pos rfl, List.nil_append, ← EB.out]; simp [List.map_take, List.map_drop]
          · skip
            go_simp
            obtain ⟨Z24, hZ24⟩ : ∃ V, V = Z0.alloc (.cells #[.int .u8 (f.1.toNat : Int), .slice xa f.2.length xc] 29) := ⟨_, rfl⟩
            have gx : Grew Z0 Z24 := by rw [hZ24]; exact grew_alloc _ _
            have GZ24 := Lib.hid (show Grew w8 Z24 from GZ0.out.trans gx)
            have HQ := Lib.hid (show Blk Z24 Z0.heap.size 29 #[.int .u8 (f.1.toNat : Int), .slice xa f.2.length xc] by rw [hZ24]; exact Blk.new _ _ _)
            rw [← hZ24]
            clear hZ24 gx
            refine hK.out _ _ GZ24.out (fun _ => ?_)
            clear hK K
            (try simp only [Act.put, List.setIfInBounds_toArray, List.set_cons_zero, List.set_cons_succ])
            refine wpAnyH_ready (rs := [0]) (by kernel_rfl) (by simp) ?_
            refine AllReadyH.cons (o := _) rfl (fun K hK => ?_) AllReadyH.nil
            · skip
              go_simp
              obtain ⟨Z25, hZ25⟩ : ∃ V, V = Z24.alloc (.cells #[] 29) := ⟨_, rfl⟩
              have gx : Grew Z24 Z25 := by rw [hZ25]; exact grew_alloc _ _
              have GZ25 := Lib.hid (show Grew w8 Z25 from GZ24.out.trans gx)
              have HNE := Lib.hid (show Z0.heap.size ≠ Z24.heap.size by have := HQ.out.lt; omega)
              have HQn := Lib.hid (HQ.out.grew gx)
              clear HQ
              have HQ := HQn
              clear HQn
              have HP := Lib.hid (show OwnFr Z25 w8.heap.size (.slice (some ⟨Z24.heap.size, 0, none⟩) 0 0) [] by rw [hZ25]; exact World.ownsRow_lit Z24 #[] 0 GZ24.out.size (Nat.zero_le _) rfl)
              have HZL := Lib.hid (show Z24.heap.size < Z25.heap.size by rw [hZ25]; simp)
              rw [← hZ25]
              clear hZ25 gx
              refine hK.out _ _ GZ25.out (fun _ => ?_)
              clear hK K
              (try simp only [Act.put, List.setIfInBounds_toArray, List.set_cons_zero, List.set_cons_succ])
              refine wpAnyH_ready (rs := [4]) (by kernel_rfl) (by simp) ?_
              refine AllReadyH.cons (o := _) rfl (fun K hK => ?_) AllReadyH.nil
              · skip
                refine step_of_listS ?_
                refine wpList_catFrG rfl _ _ rfl w8.heap.size (.slice (some ⟨Z24.heap.size, 0, none⟩) 0 0) [] (B.take t) rfl HP.out _ rfl ((FB.out.take htl).grew GZ25.out) (by simp; omega) GZ25.out.size ?_
                intro vx26 Z26 hx9 hB9 hg9
                have GZ26 := Lib.hid (show Grew w8 Z26 from Below.trans GZ25.out hB9)
                have HQn := Lib.hid (HQ.out.kept hg9 (fun e => HNE.out (by simpa [Value.ownBlock] using e)))
                clear HQ
                have HQ := HQn
                clear HQn
                have HPn := Lib.hid hx9
                clear HP hx9 hB9 hg9
                have HP := HPn
                clear HPn
                refine hK.out _ _ GZ26.out (fun _ => ?_)
                clear hK K
                (try simp only [Act.put, List.setIfInBounds_toArray])
                refine wpAnyH_ready (rs := [10]) (by kernel_rfl) (by simp) ?_
                refine AllReadyH.cons (o := _) rfl (fun K hK => ?_) AllReadyH.nil
                refine step_of_listS ?_
                refine wpList_catFrG rfl _ _ rfl w8.heap.size vx26 ([] ++ B.take t) [(f, .slice xa f.2.length xc)] rfl HP.out _ rfl (fsr_one HQ.out ((X2.out.grew G8.out).grew GZ26.out)) (by simp; omega) GZ26.out.size ?_
                intro vy Z27 hy hB9 _
                have GY := Lib.hid (show Grew w8 Z27 from Below.trans GZ26.out hB9)
                have HY := Lib.hid hy
                clear hy hB9 HP HQ
                refine hK.out _ _ GY.out (fun _ => ?_)
                clear hK K
                (try simp only [Act.put])
                refine wpAnyH_ready (rs := [14]) (by kernel_rfl) (by simp) ?_
                refine AllReadyH.cons (o := _) rfl (fun K hK => ?_) AllReadyH.nil
                refine step_of_listS ?_
                refine wpList_catFrG rfl _ _ rfl w8.heap.size vy ([] ++ B.take t ++ [(f, .slice xa f.2.length xc)]) (B.drop t) rfl HY.out _ rfl ((FB.out.drop (m := t) htl _ (by first | exact .inr rfl | exact .inl ⟨by omega, by rw [Nat.sub_self]; rfl⟩ | exact .inl ⟨by omega, by rw [Nat.sub_self, show B.length - t = 0 by omega]; rfl⟩)).grew GY.out) (by simp; omega) GY.out.size ?_
                intro vz Z28 hz9 hB9 _
                have GZ := Lib.hid (show Grew w8 Z28 from Below.trans GY.out hB9)
                have HZ9 := Lib.hid hz9
                clear hz9 hB9 HY
                refine hK.out _ _ GZ.out (fun _ => ?_)
                clear hK K
                (try simp only [Act.put])
                refine wpAnyH_tail 15 rfl (by kernel_rfl) (by kernel_rfl) (fun q => GZ.out.trans (Drew.grew ⟨q, rfl⟩)) ?_
                simp only [List.drop_succ_cons, List.drop_zero]
                repeat (quiet_step (fail))
                refine wpQuiet_nil ?_
                rintro _ ⟨nq, rfl⟩
                have gq : Grew Z28 (Z28.drewN nq) := Drew.grew ⟨nq, rfl⟩
                go_wp2_with fail
                go_meet
                refine ⟨[] ++ B.take t ++ [(f, .slice xa f.2.length xc)] ++ B.drop t, ⟨Sl.of_own (own_grew HZ9.out gq), fun x hx => ?_⟩, ?_, GZ.out.trans gq⟩
                · rw [List.nil_append] at hx
                  rcases List.mem_append.1 hx with hx | hx
                  · rcases List.mem_append.1 hx with hx | hx
                    · exact (FB.out.2 x (List.mem_of_mem_take hx)).grew (GZ.out.trans gq)
                    · rw [List.mem_singleton.1 hx]; exact (X2.out.grew G8.out).grew (GZ.out.trans gq)
                  · exact (FB.out.2 x (List.mem_of_mem_drop hx)).grew (GZ.out.trans gq)
                · unfold wantF; rw [if_neg (by decide), if_pos rfl, List.nil_append, ← EB.out]; simp [List.map_take, List.map_drop]
    case rest =>
      obtain ⟨D, q1, q2, q3⟩ := hcut
      obtain ⟨da, dn, dc, rfl, hdn, hd1, hd2⟩ := q1.open
      have hkl' : k < (A.map (·.1)).length := by rw [List.length_map]; exact hkm
      have hDl : D.length ≤ 13 := by
        have h1 := congrArg List.length q2
        rw [List.length_map] at h1
        have h2 := wantF_len kind (A.map (·.1)) k t hkl' f
        rw [List.length_map] at h2
        omega
      subst hdn
      have hjf := fjoin_few (A.map (·.1)) HALL.out
      rw [List.length_map] at hjf
      have hlw := loses_law kind HKD.out (A.map (·.1)) k t hkl'
      have hlk := loses_kind kind HKD.out (A.map (·.1)) k t hkl' HALL.out
      rw [HFK.out] at hlw hlk
      obtain ⟨X, hX⟩ : ∃ X, X = (fjoin ((restF (A.map (·.1)) k).take t)).length := ⟨_, rfl⟩
      rw [← HN.out, ← HS.out, ← hX] at hlw
      have hwl : (fjoin (wantF kind (A.map (·.1)) k t f)).length ≤ 4017 := by
        have h1 := fjoin_few (wantF kind (A.map (·.1)) k t f) hlk
        have h2 := wantF_len kind (A.map (·.1)) k t hkl' f
        rw [List.length_map] at h2
        omega
      obtain ⟨T, hT⟩ : ∃ T, T = fjoin (A.map (·.1)) := ⟨_, rfl⟩
      have hTl : T.length ≤ 3708 := by rw [hT]; omega
      rw [← hT] at hlw
      have hdo : doM T [⟨kind, (N : Nat), (S : Nat), (X : Nat), []⟩] = fjoin (wantF kind (A.map (·.1)) k t f) := by
        simp only [doM, List.foldl_cons, List.foldl_nil]
        rw [hlw]
        exact List.take_of_length_le (by omega)
      have hwk := walk_all false (wantF kind (A.map (·.1)) k t f) 0 (fun g hg => by have := hlk g hg; omega)
      rw [← q2] at hdo hwk hwl
      have hXl : X ≤ 3708 := by
        have h1 := fjoin_few ((restF (A.map (·.1)) k).take t) (fun g hg => by
          have hg2 := List.mem_of_mem_take hg
          rw [← EB.out] at hg2
          rw [EB.out] at hg2
          rcases List.mem_append.1 hg2 with h | h
          · exact HALL.out g (List.mem_of_mem_take h)
          · exact HALL.out g (List.mem_of_mem_drop h))
        have h2 : ((restF (A.map (·.1)) k).take t).length ≤ 12 := by rw [← EB.out, List.length_take, List.length_map]; omega
        rw [hX]; omega
      have hb8 : ∀ g ∈ (B.take t).map (·.1), g.2.length ≤ 8192 := by
        intro g hg
        rw [List.map_take] at hg
        have hg2 := List.mem_of_mem_take hg
        rw [EB.out] at hg2
        rcases List.mem_append.1 hg2 with h | h
        · exact HALL8.out g (List.mem_of_mem_take h)
        · exact HALL8.out g (List.mem_of_mem_drop h)
      have KA9 := Lib.hid (fun W (g : Grew w W) => r14join8_any A _ W (HA.out.grew g) HALL8.out hln)
      rw [← hT] at KA9
      have kb9 := fun W (g : Grew w8 W) => r14join8_any (B.take t) _ W ((FB.out.take htl).grew g) hb8 (by rw [List.length_take]; omega)
      rw [List.map_take, EB.out] at kb9
      have KB9 := Lib.hid kb9
      have FD := Lib.hid q1
      have HX := Lib.hid hX
      have HDO := Lib.hid hdo
      have HWK := Lib.hid hwk
      have HWL := Lib.hid hwl
      have G9 := Lib.hid (GW8.out.trans q3)
      have M9 := Lib.hid q3
      have HDX := Lib.hid hDl
      clear q1 q2 q3 hjf hlw hlk hX hT hdo hwk hwl hb8 kb9
      generalize wc = w9 at FD G9 M9 ⊢
      go_upto_region 15 with (fail)
      refine wp_region_held_drew (S := fun V => Grew w9 V) (by kernel_rfl) (Drew.grew ⟨1, rfl⟩) (fun hHeld => ?_)
      refine wpAnyH_take (i := 0) (oi := _) (v := ?_) rfl (by kernel_rfl) (by kernel_rfl) (by kernel_rfl) (fun _ _ _ h => h) (Or.inl ⟨by rfl, ?_⟩) (by assumption) ?_
      rotate_left
      · (intro W hW; go_simp; try with_reducible rfl)
      (try simp only [Act.put, List.setIfInBounds_toArray])
      refine wpAnyH_take (i := 2) (oi := _) (v := ?_) rfl (by kernel_rfl) (by kernel_rfl) (by kernel_rfl) (fun _ _ _ h => h) (Or.inl ⟨by rfl, ?_⟩) (by assumption) ?_
      rotate_left
      · (intro W hW; go_simp; try with_reducible rfl)
      (try simp only [Act.put])
      refine wpAnyH_take (i := 3) (oi := _) (v := ?_) rfl (by kernel_rfl) (by kernel_rfl) (by kernel_rfl) (fun _ _ _ h => h) (Or.inl ⟨by rfl, ?_⟩) (by assumption) ?_
      rotate_left
      · (intro W hW; go_simp; try with_reducible rfl)
      (try simp only [Act.put])
      refine wpAnyH_take (i := 4) (oi := _) (v := ?_) rfl (by kernel_rfl) (by kernel_rfl) (by kernel_rfl) (fun _ _ _ h => h) (Or.inl ⟨by rfl, ?_⟩) (by assumption) ?_
      rotate_left
      · (intro W hW; go_simp; try with_reducible rfl)
      (try simp only [Act.put])
      refine wpAnyH_take (i := 5) (oi := _) (v := ?_) rfl (by kernel_rfl) (by kernel_rfl) (by kernel_rfl) (fun _ _ _ h => h) (Or.inl ⟨by rfl, ?_⟩) (by assumption) ?_
      rotate_left
      · (intro W hW; go_simp; try with_reducible rfl)
      (try simp only [Act.put])
      refine wpAnyH_take (i := 6) (oi := _) (v := ?_) rfl (by kernel_rfl) (by kernel_rfl) (by kernel_rfl) (fun _ _ _ h => h) (Or.inl ⟨by rfl, ?_⟩) (by assumption) ?_
      rotate_left
      · (intro W hW; go_simp; try with_reducible rfl)
      (try simp only [Act.put])
      refine wpAnyH_take (i := 7) (oi := _) (v := ?_) rfl (by kernel_rfl) (by kernel_rfl) (by kernel_rfl) (fun _ _ _ h => h) (Or.inl ⟨by rfl, ?_⟩) (by assumption) ?_
      rotate_left
      · (intro W hW; go_simp; try with_reducible rfl)
      (try simp only [Act.put])
      refine wpAnyH_ready (rs := [1]) (by kernel_rfl) (by simp) ?_
      refine AllReadyH.cons (o := _) rfl (fun K hK => ?_) AllReadyH.nil
      go_simp
      refine (KA9.out _ (G9.out.trans hHeld)).mono ?_
      rintro e w10 ⟨v10, rfl, o10, g10⟩
      obtain ⟨a10, c10, rfl⟩ := bs_len (Sl.of_own o10)
      have H10 := Lib.hid (hHeld.trans g10)
      have O10 := Lib.hid (Sl.of_own o10)
      clear o10 g10 hHeld
      go_simp
      refine hK.out _ _ H10.out (fun _ => ?_)
      clear hK K
      (try simp only [Act.put, List.setIfInBounds_toArray, List.set_cons_zero, List.set_cons_succ])
      refine wpAnyH_ready (rs := [8]) (by kernel_rfl) (by simp) ?_
      refine AllReadyH.cons (o := _) rfl (fun K hK => ?_) AllReadyH.nil
      go_simp
      refine (KB9.out _ (M9.out.trans H10.out)).mono ?_
      rintro e w11 ⟨v11, rfl, o11, g11⟩
      obtain ⟨a11, c11, rfl⟩ := bs_len (Sl.of_own o11)
      rw [← HX.out]
      have H11 := Lib.hid (H10.out.trans g11)
      have O11 := Lib.hid (O10.out.grew g11)
      clear o11 g11 H10 O10
      go_simp
      refine hK.out _ _ H11.out (fun _ => ?_)
      clear hK K
      (try simp only [Act.put, List.setIfInBounds_toArray, List.set_cons_zero, List.set_cons_succ])
      refine wpAnyH_take (i := 9) (oi := _) (v := ?_) rfl (by kernel_rfl) (by kernel_rfl) (by kernel_rfl) (fun _ _ _ h => h) (Or.inl ⟨by rfl, ?_⟩) H11.out ?_
      rotate_left
      · (intro W hW; go_simp; try with_reducible rfl)
      (try simp only [Act.put, List.setIfInBounds_toArray])
      refine wpAnyH_take (i := 10) (oi := _) (v := ?_) rfl (by kernel_rfl) (by kernel_rfl) (by kernel_rfl) (fun _ _ _ h => h) (Or.inl ⟨by rfl, ?_⟩) H11.out ?_
      rotate_left
      · (intro W hW; go_simp; try with_reducible rfl)
      (try simp only [Act.put])
      refine wpAnyH_ready (rs := [11]) (by kernel_rfl) (by simp) ?_
      refine AllReadyH.cons (o := _) rfl (fun K hK => ?_) AllReadyH.nil
      go_simp
      obtain ⟨w12, hw12⟩ : ∃ V, V = w11.alloc (.cells #[.int .i64 kind, .int .i64 (N : Nat), .int .i64 (S : Nat), .int .i64 (X : Nat), .slice none 0 0] 32) := ⟨_, rfl⟩
      have gx : Grew w11 w12 := by rw [hw12]; exact grew_alloc _ _
      have H12 := Lib.hid (H11.out.trans gx)
      have O12 := Lib.hid (O11.out.grew gx)
      have ED := Lib.hid (show EdR w12 (.slice (some ⟨w11.heap.size, 0, none⟩) 1 1) [(⟨kind, (N : Nat), (S : Nat), (X : Nat), []⟩, .slice none 0 0)] by
        rw [hw12]
        exact ⟨Sl.lit w11 32 (0, 0) #[.int .i64 kind, .int .i64 (N : Nat), .int .i64 (S : Nat), .int .i64 (X : Nat), .slice none 0 0] 1 5 rfl (by unfold maxLen; omega), fun x hx => by rw [List.mem_singleton.1 hx]; exact ⟨Sl.nil _ 1, by unfold Ed.ok; simp; omega⟩⟩)
      rw [← hw12]
      clear hw12 gx H11 O11
      refine hK.out _ _ H12.out (fun _ => ?_)
      clear hK K
      (try simp only [Act.put, List.setIfInBounds_toArray, List.set_cons_zero, List.set_cons_succ])
      refine wpAnyH_ready (rs := [12]) (by kernel_rfl) (by simp) ?_
      refine AllReadyH.cons (o := _) rfl (fun K hK => ?_) AllReadyH.nil
      go_simp
      refine (sdo_any [(⟨kind, (N : Nat), (S : Nat), (X : Nat), []⟩, .slice none 0 0)] T _ _ _ O12.out ED.out (by omega)).mono ?_
      simp only [List.map_cons, List.map_nil, HDO.out]
      rintro e w13 ⟨v13, rfl, o13, g13⟩
      obtain ⟨a13, c13, rfl⟩ := bs_len (Sl.of_own o13)
      have H13 := Lib.hid (H12.out.trans g13)
      have O13 := Lib.hid (Sl.of_own o13)
      clear o13 g13 H12 O12 ED
      go_simp
      refine hK.out _ _ H13.out (fun _ => ?_)
      clear hK K
      (try simp only [Act.put, List.setIfInBounds_toArray, List.set_cons_zero, List.set_cons_succ])
      refine wpAnyH_tail 13 rfl (by kernel_rfl) (by kernel_rfl) (fun q => H13.out.trans (Drew.grew ⟨q, rfl⟩)) ?_
      simp only [List.drop_succ_cons, List.drop_zero]
      repeat (quiet_step (fail))
      refine wpQuiet_nil ?_
      rintro _ ⟨nq, rfl⟩
      have H14 := Lib.hid (H13.out.trans (Drew.grew ⟨nq, rfl⟩))
      have O14 := Lib.hid (O13.out.grew (Drew.grew ⟨nq, rfl⟩ : Grew w13 (w13.drewN nq)))
      generalize w13.drewN nq = w14 at H14 O14 ⊢
      clear H13 O13
      go_wp2_with fail
      refine (all_any (fjoin (D.map (·.1))) _ w14 O14.out (by have := HWL.out; omega)).mono ?_
      rw [HWK.out]
      rintro e w15 ⟨v15, rfl, r15, g15⟩
      obtain ⟨a15, n15, c15, rfl, en15, t15, s15⟩ := r15.shape
      have R15 := Lib.hid r15.frs
      have en15' : n15 = D.length := by rw [en15, fplace_length, List.length_map]
      subst en15'
      have H15 := Lib.hid (H14.out.trans g15)
      have zz : (0 : Nat) + (fjoin (D.map (·.1))).length = (fjoin (D.map (·.1))).length := Nat.zero_add _
      simp only [zz]
      clear r15 g15 zz en15
      go_wp2_with fail
      go_loopw [18] (fun ix wr => ∃ j : Nat, j ≤ D.length ∧ ix = .int .i64 j ∧ Grew w15 wr) (fun ix _ => D.length - (intOf ix).toNat)
      case atStart => exact ⟨0, Nat.zero_le _, rfl, Below.refl _ _⟩
      case round =>
        obtain ⟨j, hj, rfl, hG3⟩ := hrel
        by_cases hjl : j < D.length
        · have ht7 : j < (fplace 0 (D.map (·.1))).length := by rw [fplace_length, List.length_map]; exact hjl
          obtain ⟨b1, o1, rfl, hc1⟩ := (R15.out.grew hG3).cells (by omega)
          obtain ⟨x0, x1, ru, x2, x3⟩ := hc1 j ht7
          obtain ⟨b2, o2, rfl, hc2⟩ := (FD.out.grew (H15.out.trans hG3)).cells (by omega)
          obtain ⟨y0, y1, y2⟩ := hc2 j hjl
          have hff : (fplace 0 (D.map (·.1)))[j].2 = D[j].1 := by
            have h1 : ((fplace 0 (D.map (·.1))).map (·.2))[j]? = some (fplace 0 (D.map (·.1)))[j].2 := by rw [List.getElem?_map, List.getElem?_eq_getElem ht7]; rfl
            rw [fplace_snd, List.getElem?_map, List.getElem?_eq_getElem hjl] at h1
            exact (Option.some.inj h1).symm
          rw [hff] at x1 x3
          generalize D[j].1 = ff at x1 x3 y0 y2
          obtain ⟨ra1, ra2, ra3, rfl, -⟩ := bs_shape x3
          obtain ⟨sa, sc, e'⟩ := bs_len y2
          rw [e'] at y1 y2
          have ks : ∀ W', Grew wr W' → _ := fun W' g => r13same_any ff ff _ _ W' (x3.grew g) (y2.grew g)
          rw [show (ff == ff) = true by simp] at ks
          have KS := Lib.hid ks
          have z0 : (0 : Int) ≤ (j : Int) := by omega
          have z1 : (j : Int) < (D.length : Int) := by omega
          clear hc1 hc2 x3 y2 e' ks hff
          go_wp2_with fail
          go_region_with (go_at_call 10; refine (KS.out _ (Drew.grew ⟨1, rfl⟩)).mono ?_; rintro y w16 ⟨rfl, g16⟩)
          all_goals go_wp2
          all_goals go_roundw
          all_goals first
            | exact ⟨j + 1, by omega, by go_num, (hG3.trans (Drew.grew ⟨1, rfl⟩ : Grew wr wr.drew)).trans g16⟩
            | (simp [intOf]; omega)
        · obtain rfl : j = D.length := by omega
          go_wp2
          go_ret
          exact ⟨rfl, (G9.out.trans H15.out).trans hG3⟩
end Go.Proofs.Ytgdkgmpgkocnlaa
