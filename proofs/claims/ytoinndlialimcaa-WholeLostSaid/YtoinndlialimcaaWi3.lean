/- The law WholeLost returns true: its walk. -/
import Derived.Test.YtoinndlialimcaaWi2
import Derived.Test.YtoinndlialimcaaSt4
namespace Go.Proofs.Ytoinndlialimcaa
open Go Go.RowKit Go.Shelf

def stepQS (K : Act → World → Prop) : Exit → Act → World → Prop
  | .normal, a, w => K a w
  | _, _, _ => False
theorem wp_monoQS {P : Program} {o : Oper} {a : Act} {w : World} {K : Act → World → Prop} {Q Q' : Exit → Act → World → Prop} (hQ : ∀ c a w, Q (.panic c) a w → Q' (.panic c) a w) (hl : LetsOut Q → LetsOut Q') (hh : o.wp P a w K Q) : o.wp P a w K Q' := by
  unfold Oper.wp at *
  generalize (execOp a.eval o).run P w = r at *
  cases r with
  | ok n w' =>
    cases n <;> simp only [Oper.upon] at hh ⊢ <;>
      first
        | exact hh
        | exact Calls.mono hh (fun e w'' he => by cases e <;> first | exact he | exact hQ _ _ _ he | exact hl he)
  | halt x w' => cases x <;> simp only [Oper.upon] at hh ⊢ <;> first | exact hh | exact hQ _ _ _ hh
theorem step_of_listS {P : Program} {ops : Array Oper} {Q : Exit → Act → World → Prop} {K : Act → World → Prop} {o : Oper} {a : Act} {w : World} (h : wpList P ops (stepQS K) [o] a w) :
    if Region.wanted o (yielded ops a.tmps) = true then Oper.wp P o a w K Q else K (a.put o.dst undef) w := by
  unfold wpList at h
  split at h
  · rename_i hw
    rw [if_pos hw]
    rcases h with h | ⟨-, _, _, h⟩
    · exact wp_monoQS (fun _ _ _ h => h.elim) (fun ⟨_, _, h⟩ => h.elim) h
    · exact h.elim
  · rename_i hw
    rw [if_neg hw]
    exact h
set_option maxRecDepth 100000 in
set_option maxHeartbeats 8000000 in
theorem wlost_walk (A : List FA) (wh : Nat) (i n : Int) (v : Value) (w : World) (h : FsR w v A) (hwh : wh < 256) (hi : -9223372036854775808 ≤ i ∧ i ≤ 9223372036854775807) (hnb : -9223372036854775808 ≤ n ∧ n ≤ 9223372036854775807) :
    Calls Try.prog 9 #[v, .int .u8 (wh : Nat), .int .i64 i, .int .i64 n] w fun e w' => e = .returned (.bool true) ∧ Grew w w' := by
  obtain ⟨a, n', c, rfl, hn, h1, h2⟩ := h.open
  subst hn
  have HA := Lib.hid h
  have KFEW := Lib.hid (fun W (g : Grew w W) => few_any A _ W (h.grew g))
  clear h
  by_cases h0 : A.length = 0
  · have hz : ((A.length : Int) == 0) = true := by rw [h0]; rfl
    clear h0
    go_enter Try.func9, Try.ntmps9
    go_wp2_with fail
    refine (awakeS_any _).mono ?_
    rintro e w1 ⟨rfl, g1⟩
    go_wp2
    go_ret
    exact ⟨rfl, g1⟩
  have hz : ((A.length : Int) == 0) = false := by rw [beq_eq_false_iff_ne]; omega
  by_cases hfew : fewL (A.map (·.1)) = true
  case neg =>
    have hf : fewL (A.map (·.1)) = false := by simpa using hfew
    rw [hf] at KFEW
    clear hfew hf h0
    go_enter Try.func9, Try.ntmps9
    go_wp2_with fail
    refine (awakeS_any _).mono ?_
    rintro e w1 ⟨rfl, g1⟩
    go_wp2_with fail
    refine (KFEW.out _ g1).mono ?_
    rintro e w2 ⟨rfl, rfl⟩
    go_wp2
    go_ret
    exact ⟨rfl, g1⟩
  rw [hfew] at KFEW
  have hall : ∀ f ∈ A.map (·.1), f.2.length ≤ 300 := by
    intro f hm
    have := (Bool.and_eq_true_iff.1 hfew).2
    have := List.all_eq_true.1 this f hm
    simpa using this
  have hln : A.length ≤ 12 := by have := (Bool.and_eq_true_iff.1 hfew).1; simpa using this
  have HALL := Lib.hid hall
  have hAp : 0 < A.length := by omega
  clear hfew hall h0
  go_enter Try.func9, Try.ntmps9
  go_wp2_with fail
  refine (awakeS_any _).mono ?_
  rintro e w1 ⟨rfl, g1⟩
  go_wp2_with fail
  refine (KFEW.out _ g1).mono ?_
  rintro e w2 ⟨rfl, rfl⟩
  go_wp2_with fail
  go_loopw [9] (fun ix wr => ∃ k : Nat, k ≤ A.length ∧ ix = .int .i64 k ∧ RowKit.Hid (∀ j (hj : j < A.length), j < k → innerB A[j].1 = false) ∧ Grew w1 wr) (fun ix _ => A.length - (intOf ix).toNat)
  case atStart => exact ⟨0, Nat.zero_le _, rfl, Lib.hid fun j _ hj => absurd hj (Nat.not_lt_zero j), Below.refl _ _⟩
  case round =>
    obtain ⟨k, hk, rfl, hno, hG⟩ := hrel
    by_cases hlt : k < A.length
    · obtain ⟨b, o, rfl, hcl⟩ := (HA.out.grew (g1.trans hG)).cells (by omega)
      obtain ⟨x0, x1, x2⟩ := hcl k hlt
      have hfl := HALL.out A[k].1 (List.mem_map.2 ⟨_, List.getElem_mem hlt, rfl⟩)
      have hno2 : innerB A[k].1 = false → RowKit.Hid (∀ j (hj : j < A.length), j < k + 1 → innerB A[j].1 = false) := by
        intro h6
        refine Lib.hid fun j hj hjk => ?_
        by_cases h7 : j < k
        · exact hno.out j hj h7
        · obtain rfl : j = k := by omega
          exact h6
      have HNO := Lib.hid hno2
      clear hno2
      generalize A[k].1 = f at x0 x2 hfl HNO
      obtain ⟨xa, xc, e⟩ := bs_len x2
      rw [e] at x1 x2
      have X2 := Lib.hid x2
      have z0 : (0 : Int) ≤ (k : Int) := by omega
      have z1 : (k : Int) < (A.length : Int) := by omega
      clear hcl e x2 hno
      go_wp2_with fail
      refine (inner_any f _ _ X2.out (by omega)).mono ?_
      rintro e w3 ⟨rfl, g3⟩
      cases hib : innerB f with
      | true =>
        go_wp2
        go_ret
        exact ⟨rfl, (g1.trans hG).trans g3⟩
      | false =>
        have hno3 := HNO.out hib
        go_wp2
        go_roundw
        case rel => exact ⟨k + 1, by omega, by go_num, hno3, hG.trans g3⟩
        case measure => simp [intOf]; omega
    · obtain rfl : k = A.length := by omega
      have HPL := Lib.hid (fun f (hf : f ∈ A.map (·.1)) => (show plainF f by
        obtain ⟨j, hj, rfl⟩ := List.getElem_of_mem hf
        rw [List.length_map] at hj
        have := inner_plain (hno.out j hj hj)
        simpa using this))
      have hkm : wh % A.length < A.length := Nat.mod_lt _ hAp
      have hmod : Int.tmod (wh : Int) (A.length : Int) = ((wh % A.length : Nat) : Int) := by
        rw [Int.tmod_eq_emod_of_nonneg (by omega)]; rfl
      obtain ⟨k, hkk⟩ : ∃ k, k = wh % A.length := ⟨_, rfl⟩
      rw [← hkk] at hkm hmod
      have G1 := g1.trans hG
      generalize wr = w4 at G1 ⊢
      clear hno hkk
      have hsz : ¬ ((A.length : Int) = 0) := by omega
      have zk0 : (0 : Int) ≤ (k : Int) := by omega
      have zk1 : (k : Int) < (A.length : Int) := by omega
      have zk2 : (k : Int) ≤ (A.length : Int) := by omega
      have zk3 : (k : Int) ≤ (c : Int) := by omega
      have hall8 : ∀ f ∈ A.map (·.1), f.2.length ≤ 8192 := fun f hf => by have := HALL.out f hf; omega
      have hjf := fjoin_few (A.map (·.1)) HALL.out
      rw [List.length_map] at hjf
      have HALL8 := Lib.hid hall8
      have hkl : (A.take k).length = k := by rw [List.length_take]; omega
      have kj := fun W (g : Grew w W) => r14join8_any (A.take k) _ W ((HA.out.take (by omega : k ≤ A.length)).grew g) (fun f hf => HALL8.out f (by rw [List.map_take] at hf; exact List.mem_of_mem_take hf)) (by omega)
      have KJ := Lib.hid kj
      clear hall8 kj hkl
      go_wp2_with fail
      refine (KJ.out w4 G1).mono ?_
      rintro e w5 ⟨v5, rfl, o5, g5⟩
      obtain ⟨a5, c5, rfl⟩ := bs_len (Sl.of_own o5)
      rw [List.map_take]
      obtain ⟨N, hN⟩ : ∃ N, N = (fjoin ((A.map (·.1)).take k)).length := ⟨_, rfl⟩
      rw [← hN]
      have G5 := G1.trans g5
      obtain ⟨b, o, rfl, hcl⟩ := (HA.out.grew G5).cells hAp
      obtain ⟨x0, x1, x2⟩ := hcl k hkm
      have hfl := HALL.out A[k].1 (List.mem_map.2 ⟨_, List.getElem_mem hkm, rfl⟩)
      have hfk : (A.map (·.1))[k]'(by rw [List.length_map]; exact hkm) = A[k].1 := by simp
      generalize A[k].1 = f at x0 x2 hfl hfk
      obtain ⟨xa, xc, e⟩ := bs_len x2
      rw [e] at x1 x2
      have X2 := Lib.hid x2
      have HFK := Lib.hid hfk
      have HN := Lib.hid hN
      have hNle : N ≤ 3708 := by
        have h1 := fjoin_few ((A.map (·.1)).take k) (fun f hf => HALL.out f (List.mem_of_mem_take hf))
        have h2 : ((A.map (·.1)).take k).length ≤ 12 := by rw [List.length_take]; omega
        rw [hN]; omega
      clear hcl e x2 o5 hfk hN
      go_wp2_with fail
      refine (r13put_any f _ _ X2.out (by omega)).mono ?_
      rintro e w6 ⟨v6, rfl, o6, g6⟩
      obtain ⟨a6, c6, rfl⟩ := bs_len (Sl.of_own o6)
      obtain ⟨S, hS⟩ : ∃ S, S = (fput f).length := ⟨_, rfl⟩
      rw [← hS]
      have hSl : S ≤ 309 := by rw [hS, fput_length]; omega
      have HS := Lib.hid hS
      have G6 := G5.trans g6
      clear o6 hS x0 x1
      by_cases c1 : i < 0
      · go_wp2
        go_ret
        exact ⟨rfl, G6⟩
      have c1' : 0 ≤ i := by omega
      by_cases c2 : n < 1
      · go_wp2
        go_ret
        exact ⟨rfl, G6⟩
      have c2' : 1 ≤ n := by omega
      by_cases c3 : (S : Int) ≤ i
      · go_wp2
        go_ret
        exact ⟨rfl, G6⟩
      have c3' : i < (S : Int) := by omega
      by_cases c4 : (S : Int) - i < n
      · go_wp2
        go_ret
        exact ⟨rfl, G6⟩
      have c4' : n ≤ (S : Int) - i := by omega
      obtain ⟨p, rfl⟩ : ∃ p : Nat, i = (p : Int) := ⟨i.toNat, by omega⟩
      obtain ⟨m, rfl⟩ : ∃ m : Nat, n = (m : Int) := ⟨n.toNat, by omega⟩
      have hpm : p + m ≤ S := by omega
      have hm0 : 0 < m := by omega
      clear c1 c2 c3 c4
      go_wp2_with fail
      refine (r14join8_any A _ _ (HA.out.grew G6) HALL8.out hln).mono ?_
      rintro e w7 ⟨v7, rfl, o7, g7⟩
      obtain ⟨a7, c7, rfl⟩ := bs_len (Sl.of_own o7)
      have O7 := Lib.hid (Sl.of_own o7)
      have G7 := G6.trans g7
      clear o7
      obtain ⟨T, hT⟩ : ∃ T, T = fjoin (A.map (·.1)) := ⟨_, rfl⟩
      have hTl : T.length ≤ 3708 := by rw [hT]; omega
      have HT := Lib.hid hT
      rw [← hT] at O7 ⊢
      clear hT hjf
      go_wp2_with fail
      have hkl' : k < (A.map (·.1)).length := by rw [List.length_map]; exact hkm
      have hdo := lost_do (A.map (·.1)) k p m hkl' (by rw [HFK.out, ← HS.out]; exact hpm) (by rw [← HT.out]; omega) 0 []
      have hll := lost_law (A.map (·.1)) k p m hkl' HALL8.out HPL.out hm0 (by rw [HFK.out, ← HS.out]; exact hpm)
      simp only at hll
      rw [HFK.out, ← HN.out, ← HT.out] at hdo
      rw [HFK.out, ← HN.out] at hll
      obtain ⟨D, hD⟩ : ∃ D, D = fjoin ((A.map (·.1)).take k) ++ ((fput f).take p ++ (fput f).drop (p + m)) ++ fjoin ((A.map (·.1)).drop (k + 1)) := ⟨_, rfl⟩
      rw [← hD] at hdo hll
      push_cast at hdo
      have hDl : D.length ≤ 1048576 := by rw [← hdo]; exact doM_len _ _ (by omega)
      have HDO := Lib.hid hdo
      have HLL := Lib.hid hll
      clear hdo hll hD
      refine (sdo_any [(⟨2, (N : Int) + (p : Int), (m : Int), 0, []⟩, .slice none 0 0)] T _ _ _ (O7.out.grew (grew_alloc _ _)) ⟨Sl.lit w7 26 (0, 0) #[.int .i64 2, .int .i64 ((N : Int) + (p : Int)), .int .i64 (m : Int), .int .i64 0, .slice none 0 0] 1 5 rfl (by unfold maxLen; omega), fun x hx => by rw [List.mem_singleton.1 hx]; exact ⟨Sl.nil _ 1, by unfold Ed.ok; simp; omega⟩⟩ (by omega)).mono ?_
      simp only [List.map_cons, List.map_nil, HDO.out]
      rintro e w8 ⟨v8, rfl, o8, g8⟩
      obtain ⟨a8, c8, rfl⟩ := bs_len (Sl.of_own o8)
      have O8 := Lib.hid (Sl.of_own o8)
      have G8 := (G7.trans (grew_alloc _ _)).trans g8
      clear o8
      go_wp2_with fail
      refine (ended_any D _ w8 O8.out (by omega)).mono ?_
      rintro e w9 ⟨v9, rfl, r9, g9⟩
      have hll := HLL.out
      generalize (walkL true D 0).1 = fs at r9 hll
      obtain ⟨a9, n9, c9, rfl, en9, t9, s9⟩ := r9.shape
      have R9 := Lib.hid r9.frs
      have EN9 := Lib.hid en9
      have HL2 := Lib.hid hll
      have G9 := G8.trans g9
      have zk5 : (k : Int) + 1 ≤ (A.length : Int) := by omega
      have zk9 : (0 : Int) ≤ (k : Int) + 1 := by omega
      have zka : (k : Int) ≤ (k : Int) + 1 := by omega
      have zk6 : (k : Int) + 1 ≤ (c : Int) := by omega
      have zk7 : ((k : Int) + 1).toNat = k + 1 := by omega
      have zk8 : IntKind.i64.wrap ((k : Int) + 1) = (k : Int) + 1 := by rw [IntKind.wrap_i64]; omega
      clear r9 en9 hll
      go_wp2_with fail
      have hcc : c = k + 1 ∨ ¬ c = k + 1 := by omega
      rcases hcc with hck | hck
      · obtain rfl : c = k + 1 := hck
        refine wp_region_held_drew (S := fun _ => True) (by kernel_rfl) trivial (fun _ => ?_)
        refine wpAnyH_take (i := 1) (oi := _) (v := ?_) rfl (by kernel_rfl) (by kernel_rfl) (by kernel_rfl) (fun _ _ _ h => h) (Or.inl ⟨by rfl, ?_⟩) trivial ?_
        rotate_left
        · (intro W _; go_simp; try with_reducible rfl)
        (try simp only [Act.put, List.setIfInBounds_toArray, List.set_cons_zero, List.set_cons_succ])
        refine wpAnyH_take (i := 2) (oi := _) (v := ?_) rfl (by kernel_rfl) (by kernel_rfl) (by kernel_rfl) (fun _ _ _ h => h) (Or.inl ⟨by rfl, ?_⟩) trivial ?_
        rotate_left
        · (intro W _; go_simp; try with_reducible rfl)
        (try simp only [Act.put, List.setIfInBounds_toArray, List.set_cons_zero, List.set_cons_succ])
        refine wpAnyH_take (i := 3) (oi := _) (v := ?_) rfl (by kernel_rfl) (by kernel_rfl) (by kernel_rfl) (fun _ _ _ h => h) (Or.inl ⟨by rfl, ?_⟩) trivial ?_
        rotate_left
        · (intro W _; go_simp; try with_reducible rfl)
        (try simp only [Act.put, List.setIfInBounds_toArray, List.set_cons_zero, List.set_cons_succ])
        refine wpAnyH_take (i := 5) (oi := _) (v := ?_) rfl (by kernel_rfl) (by kernel_rfl) (by kernel_rfl) (fun _ _ _ h => h) (Or.inl ⟨by rfl, ?_⟩) trivial ?_
        rotate_left
        · (intro W _; go_simp; try with_reducible rfl)
        (try simp only [Act.put, List.setIfInBounds_toArray, List.set_cons_zero, List.set_cons_succ])
        refine wpAnyH_take (i := 6) (oi := _) (v := ?_) rfl (by kernel_rfl) (by kernel_rfl) (by kernel_rfl) (fun _ _ _ h => h) (Or.inl ⟨by rfl, ?_⟩) trivial ?_
        rotate_left
        · (intro W _; go_simp; try with_reducible rfl)
        (try simp only [Act.put, List.setIfInBounds_toArray, List.set_cons_zero, List.set_cons_succ])
        refine wpAnyH_take (i := 7) (oi := _) (v := ?_) rfl (by kernel_rfl) (by kernel_rfl) (by kernel_rfl) (fun _ _ _ h => h) (Or.inl ⟨by rfl, ?_⟩) trivial ?_
        rotate_left
        · (intro W _; go_simp; try with_reducible rfl)
        (try simp only [Act.put, List.setIfInBounds_toArray, List.set_cons_zero, List.set_cons_succ])
        refine wpAnyH_take (i := 8) (oi := _) (v := ?_) rfl (by kernel_rfl) (by kernel_rfl) (by kernel_rfl) (fun _ _ _ h => h) (Or.inl ⟨by rfl, ?_⟩) trivial ?_
        rotate_left
        · (intro W _; go_simp; try with_reducible rfl)
        (try simp only [Act.put, List.setIfInBounds_toArray, List.set_cons_zero, List.set_cons_succ])
        refine wpAnyH_ready (rs := [0]) (by kernel_rfl) (by simp) ?_
        refine AllReadyH.cons (o := _) rfl (fun K hK => ?_) AllReadyH.nil
        go_simp
        refine hK.out _ _ trivial (fun _ => ?_)
        clear hK K
        (try simp only [Act.put, List.setIfInBounds_toArray, List.set_cons_zero, List.set_cons_succ])
        refine wpAnyH_ready (rs := [4]) (by kernel_rfl) (by simp) ?_
        refine AllReadyH.cons (o := _) rfl (fun K hK => ?_) AllReadyH.nil
        refine step_of_listS ?_
        have gd : Grew w9 (w9.drew.alloc (.cells #[] 38)) := (Drew.grew ⟨1, rfl⟩ : Grew w9 w9.drew).trans (grew_alloc _ _)
        refine wpList_catFr rfl _ _ rfl w9.heap.size (.slice (some ⟨w9.heap.size, 0, none⟩) 0 0) [] (A.take k) rfl (World.ownsRow_lit w9.drew #[] 0 (Nat.le_refl _) (Nat.zero_le _) rfl) _ rfl ((HA.out.take (show k ≤ A.length by omega)).grew (G9.trans gd)) (by simp; omega) gd.size ?_
        intro v10 w10 h10 hB10
        have G10 : Grew w9 w10 := Below.trans gd hB10
        have H10 := Lib.hid h10
        clear h10
        refine hK.out _ _ trivial (fun _ => ?_)
        clear hK K
        (try simp only [Act.put, List.setIfInBounds_toArray, List.set_cons_zero, List.set_cons_succ])
        refine wpAnyH_ready (rs := [9]) (by kernel_rfl) (by simp) ?_
        refine AllReadyH.cons (o := _) rfl (fun K hK => ?_) AllReadyH.nil
        refine step_of_listS ?_
        refine wpList_catFr rfl _ _ rfl w9.heap.size v10 ([] ++ A.take k) (A.drop (k + 1)) rfl H10.out _ rfl ((HA.out.drop (m := k + 1) (by omega) _ (by first | exact .inr rfl | exact .inl ⟨by omega, by rw [Nat.sub_self]; rfl⟩ | exact .inl ⟨by omega, by rw [Nat.sub_self, show A.length - (k + 1) = 0 by omega]; rfl⟩)).grew (G9.trans G10)) (by simp; omega) G10.size ?_
        intro v11 w11 h11 hB11
        have G11 : Grew w9 w11 := Below.trans G10 hB11
        obtain ⟨B, hB⟩ : ∃ B, B = [] ++ A.take k ++ A.drop (k + 1) := ⟨_, rfl⟩
        rw [← hB] at h11
        obtain ⟨va, vc, rfl, hv1, hv2, -, -⟩ := (Sl.of_own h11).open
        unfold maxLen at hv2
        have hBf : FsR w11 (.slice va B.length vc) B := ⟨Sl.of_own h11, fun x hx => by
          refine (HA.out.2 x ?_).grew (G9.trans G11)
          rw [hB, List.nil_append] at hx
          rcases List.mem_append.1 hx with hx | hx
          · exact List.mem_of_mem_take hx
          · exact List.mem_of_mem_drop hx⟩
        have hBm : B.map (·.1) = restF (A.map (·.1)) k := by rw [hB, List.nil_append, List.map_append, List.map_take, List.map_drop]; rfl
        have BF := Lib.hid hBf
        have BM := Lib.hid hBm
        have hBl : B.length ≤ 12 := by rw [hB]; simp; omega
        clear h11 hB hBf hBm
        refine hK.out _ _ trivial (fun _ => ?_)
        clear hK K
        (try simp only [Act.put, List.setIfInBounds_toArray, List.set_cons_zero, List.set_cons_succ])
        refine wpAnyH_tail 10 rfl (by kernel_rfl) (by kernel_rfl) (fun _ => trivial) ?_
        simp only [List.drop_succ_cons, List.drop_zero]
        repeat (quiet_step (fail))
        refine wpQuiet_nil ?_
        rintro _ ⟨nq, rfl⟩
        have gq : Grew w11 (w11.drewN nq) := Drew.grew ⟨nq, rfl⟩
        have R12 := Lib.hid (R9.out.grew (G11.trans gq))
        have B12 := Lib.hid (BF.out.grew gq)
        have G12 := (G9.trans G11).trans gq
        generalize w11.drewN nq = w12 at R12 B12 G12 ⊢
        clear gq BF R9 H10
        go_wp2_with fail
        go_loopw [16] (fun ix wr => ∃ j : Nat, j ≤ n9 ∧ ix = .int .i64 j ∧ RowKit.Hid (∀ t (ht : t < fs.length), t < j → ¬ (fs[t].1 = N ∧ 0 < p)) ∧ Grew w12 wr) (fun ix _ => n9 - (intOf ix).toNat)
        case atStart => exact ⟨0, Nat.zero_le _, rfl, Lib.hid fun t _ ht => absurd ht (Nat.not_lt_zero t), Below.refl _ _⟩
        case round =>
          obtain ⟨j, hj, rfl, hno, hG2⟩ := hrel
          by_cases hjl : j < n9
          · have hj7 : j < fs.length := by rw [← EN9.out]; exact hjl
            obtain ⟨b1, o1, rfl, hc1⟩ := (R12.out.grew hG2).cells (by omega)
            obtain ⟨x0, -, -⟩ := hc1 j hj7
            have hno2 : ¬ (fs[j].1 = N ∧ 0 < p) → RowKit.Hid (∀ t (ht : t < fs.length), t < j + 1 → ¬ (fs[t].1 = N ∧ 0 < p)) := by
              intro h6
              refine Lib.hid fun t ht htj => ?_
              by_cases h7 : t < j
              · exact hno.out t ht h7
              · obtain rfl : t = j := by omega
                exact h6
            have HNO := Lib.hid hno2
            clear hno2 hno hc1
            generalize fs[j].1 = q at x0 HNO
            have z0 : (0 : Int) ≤ (j : Int) := by omega
            have z1 : (j : Int) < (n9 : Int) := by omega
            by_cases hqN : q = N
            · by_cases hp0 : 0 < p
              · have zq : ((q : Int) == (N : Int)) = true := by rw [hqN]; simp
                have zp : (0 : Int) < (p : Int) := by omega
                clear hqN HNO
                go_wp2
                go_ret
                exact ⟨rfl, G12.trans hG2⟩
              · have zq : ((q : Int) == (N : Int)) = true := by rw [hqN]; simp
                have hno3 := HNO.out (fun h => hp0 h.2)
                have zp : ¬ (0 : Int) < (p : Int) := by omega
                clear hqN HNO
                go_wp2
                go_roundw
                case rel => exact ⟨j + 1, by omega, by go_num, hno3, hG2⟩
                case measure => simp [intOf]; omega
            · have zq : ((q : Int) == (N : Int)) = false := by rw [beq_eq_false_iff_ne]; omega
              have hno3 := HNO.out (fun h => hqN h.1)
              clear HNO hqN
              go_wp2
              go_roundw
              case rel => exact ⟨j + 1, by omega, by go_num, hno3, hG2⟩
              case measure => simp [intOf]; omega
          · obtain rfl : j = n9 := by omega
            have hmap : fs.map (·.2) = B.map (·.1) := by
              rw [BM.out]
              rcases HL2.out with ⟨h1, x, hx, hxe⟩ | h1
              · obtain ⟨t, ht, rfl⟩ := List.getElem_of_mem hx
                exact absurd ⟨hxe, h1⟩ (hno.out t ht (by rw [EN9.out]; exact ht))
              · exact h1
            have hnB : j = B.length := by
              have h1 := congrArg List.length hmap
              rw [List.length_map, List.length_map] at h1
              rw [EN9.out, h1]
            have HMP := Lib.hid hmap
            have HNB := Lib.hid hnB
            have hz9 : ((j : Int) != (B.length : Int)) = false := by rw [hnB]; simp
            clear hno hmap hnB
            have G13 := G12.trans hG2
            have R13 := Lib.hid (R12.out.grew hG2)
            have B13 := Lib.hid (B12.out.grew hG2)
            generalize wr = w13 at G13 R13 B13 ⊢
            go_wp2_with fail
            go_loopw [17] (fun ix wr => ∃ t : Nat, t ≤ B.length ∧ ix = .int .i64 t ∧ Grew w13 wr) (fun ix _ => B.length - (intOf ix).toNat)
            case atStart => exact ⟨0, Nat.zero_le _, rfl, Below.refl _ _⟩
            case round =>
              obtain ⟨t, ht, rfl, hG3⟩ := hrel
              by_cases htl : t < B.length
              · have ht7 : t < fs.length := by rw [← EN9.out, HNB.out]; exact htl
                obtain ⟨b1, o1, rfl, hc1⟩ := (R13.out.grew hG3).cells (by omega)
                obtain ⟨x0, x1, ru, x2, x3⟩ := hc1 t ht7
                obtain ⟨b2, o2, rfl, hc2⟩ := (B13.out.grew hG3).cells (by omega)
                obtain ⟨y0, y1, y2⟩ := hc2 t htl
                have hff : fs[t].2 = B[t].1 := by
                  have h1 : (fs.map (·.2))[t]? = some fs[t].2 := by rw [List.getElem?_map, List.getElem?_eq_getElem ht7]; rfl
                  rw [HMP.out, List.getElem?_map, List.getElem?_eq_getElem htl] at h1
                  exact (Option.some.inj h1).symm
                rw [hff] at x1 x3
                generalize B[t].1 = ff at x1 x3 y0 y2
                obtain ⟨ra1, ra2, ra3, rfl, -⟩ := bs_shape x3
                obtain ⟨sa, sc, e'⟩ := bs_len y2
                rw [e'] at y1 y2
                have ks : ∀ W', Grew wr W' → _ := fun W' g => frsame_any ff ff _ _ W' (x3.grew g) (y2.grew g)
                rw [show (ff == ff) = true by simp] at ks
                have KS := Lib.hid ks
                have z0 : (0 : Int) ≤ (t : Int) := by omega
                have z1 : (t : Int) < (B.length : Int) := by omega
                have z2 : (t : Int) < (j : Int) := by rw [HNB.out]; omega
                clear hc1 hc2 x3 y2 e' ks hff
                go_wp2_with fail
                go_region_with (go_at_call 26; refine (KS.out _ (Drew.grew ⟨1, rfl⟩)).mono ?_; rintro y w14 ⟨rfl, g14⟩)
                all_goals go_wp2
                all_goals go_roundw
                all_goals first
                  | exact ⟨t + 1, by omega, by go_num, (hG3.trans (Drew.grew ⟨1, rfl⟩ : Grew wr wr.drew)).trans g14⟩
                  | (simp [intOf]; omega)
              · obtain rfl : t = B.length := by omega
                go_wp2
                go_ret
                exact ⟨rfl, G13.trans hG3⟩
      · refine wp_region_held_drew (S := fun _ => True) (by kernel_rfl) trivial (fun _ => ?_)
        refine wpAnyH_take (i := 1) (oi := _) (v := ?_) rfl (by kernel_rfl) (by kernel_rfl) (by kernel_rfl) (fun _ _ _ h => h) (Or.inl ⟨by rfl, ?_⟩) trivial ?_
        rotate_left
        · (intro W _; go_simp; try with_reducible rfl)
        (try simp only [Act.put, List.setIfInBounds_toArray, List.set_cons_zero, List.set_cons_succ])
        refine wpAnyH_take (i := 2) (oi := _) (v := ?_) rfl (by kernel_rfl) (by kernel_rfl) (by kernel_rfl) (fun _ _ _ h => h) (Or.inl ⟨by rfl, ?_⟩) trivial ?_
        rotate_left
        · (intro W _; go_simp; try with_reducible rfl)
        (try simp only [Act.put, List.setIfInBounds_toArray, List.set_cons_zero, List.set_cons_succ])
        refine wpAnyH_take (i := 3) (oi := _) (v := ?_) rfl (by kernel_rfl) (by kernel_rfl) (by kernel_rfl) (fun _ _ _ h => h) (Or.inl ⟨by rfl, ?_⟩) trivial ?_
        rotate_left
        · (intro W _; go_simp; try with_reducible rfl)
        (try simp only [Act.put, List.setIfInBounds_toArray, List.set_cons_zero, List.set_cons_succ])
        refine wpAnyH_take (i := 5) (oi := _) (v := ?_) rfl (by kernel_rfl) (by kernel_rfl) (by kernel_rfl) (fun _ _ _ h => h) (Or.inl ⟨by rfl, ?_⟩) trivial ?_
        rotate_left
        · (intro W _; go_simp; try with_reducible rfl)
        (try simp only [Act.put, List.setIfInBounds_toArray, List.set_cons_zero, List.set_cons_succ])
        refine wpAnyH_take (i := 6) (oi := _) (v := ?_) rfl (by kernel_rfl) (by kernel_rfl) (by kernel_rfl) (fun _ _ _ h => h) (Or.inl ⟨by rfl, ?_⟩) trivial ?_
        rotate_left
        · (intro W _; go_simp; try with_reducible rfl)
        (try simp only [Act.put, List.setIfInBounds_toArray, List.set_cons_zero, List.set_cons_succ])
        refine wpAnyH_take (i := 7) (oi := _) (v := ?_) rfl (by kernel_rfl) (by kernel_rfl) (by kernel_rfl) (fun _ _ _ h => h) (Or.inl ⟨by rfl, ?_⟩) trivial ?_
        rotate_left
        · (intro W _; go_simp; try with_reducible rfl)
        (try simp only [Act.put, List.setIfInBounds_toArray, List.set_cons_zero, List.set_cons_succ])
        refine wpAnyH_take (i := 8) (oi := _) (v := ?_) rfl (by kernel_rfl) (by kernel_rfl) (by kernel_rfl) (fun _ _ _ h => h) (Or.inl ⟨by rfl, ?_⟩) trivial ?_
        rotate_left
        · (intro W _; go_simp; try with_reducible rfl)
        (try simp only [Act.put, List.setIfInBounds_toArray, List.set_cons_zero, List.set_cons_succ])
        refine wpAnyH_ready (rs := [0]) (by kernel_rfl) (by simp) ?_
        refine AllReadyH.cons (o := _) rfl (fun K hK => ?_) AllReadyH.nil
        go_simp
        refine hK.out _ _ trivial (fun _ => ?_)
        clear hK K
        (try simp only [Act.put, List.setIfInBounds_toArray, List.set_cons_zero, List.set_cons_succ])
        refine wpAnyH_ready (rs := [4]) (by kernel_rfl) (by simp) ?_
        refine AllReadyH.cons (o := _) rfl (fun K hK => ?_) AllReadyH.nil
        refine step_of_listS ?_
        have gd : Grew w9 (w9.drew.alloc (.cells #[] 38)) := (Drew.grew ⟨1, rfl⟩ : Grew w9 w9.drew).trans (grew_alloc _ _)
        refine wpList_catFr rfl _ _ rfl w9.heap.size (.slice (some ⟨w9.heap.size, 0, none⟩) 0 0) [] (A.take k) rfl (World.ownsRow_lit w9.drew #[] 0 (Nat.le_refl _) (Nat.zero_le _) rfl) _ rfl ((HA.out.take (show k ≤ A.length by omega)).grew (G9.trans gd)) (by simp; omega) gd.size ?_
        intro v10 w10 h10 hB10
        have G10 : Grew w9 w10 := Below.trans gd hB10
        have H10 := Lib.hid h10
        clear h10
        refine hK.out _ _ trivial (fun _ => ?_)
        clear hK K
        (try simp only [Act.put, List.setIfInBounds_toArray, List.set_cons_zero, List.set_cons_succ])
        refine wpAnyH_ready (rs := [9]) (by kernel_rfl) (by simp) ?_
        refine AllReadyH.cons (o := _) rfl (fun K hK => ?_) AllReadyH.nil
        refine step_of_listS ?_
        refine wpList_catFr rfl _ _ rfl w9.heap.size v10 ([] ++ A.take k) (A.drop (k + 1)) rfl H10.out _ rfl ((HA.out.drop (m := k + 1) (by omega) _ (by first | exact .inr rfl | exact .inl ⟨by omega, by rw [Nat.sub_self]; rfl⟩ | exact .inl ⟨by omega, by rw [Nat.sub_self, show A.length - (k + 1) = 0 by omega]; rfl⟩)).grew (G9.trans G10)) (by simp; omega) G10.size ?_
        intro v11 w11 h11 hB11
        have G11 : Grew w9 w11 := Below.trans G10 hB11
        obtain ⟨B, hB⟩ : ∃ B, B = [] ++ A.take k ++ A.drop (k + 1) := ⟨_, rfl⟩
        rw [← hB] at h11
        obtain ⟨va, vc, rfl, hv1, hv2, -, -⟩ := (Sl.of_own h11).open
        unfold maxLen at hv2
        have hBf : FsR w11 (.slice va B.length vc) B := ⟨Sl.of_own h11, fun x hx => by
          refine (HA.out.2 x ?_).grew (G9.trans G11)
          rw [hB, List.nil_append] at hx
          rcases List.mem_append.1 hx with hx | hx
          · exact List.mem_of_mem_take hx
          · exact List.mem_of_mem_drop hx⟩
        have hBm : B.map (·.1) = restF (A.map (·.1)) k := by rw [hB, List.nil_append, List.map_append, List.map_take, List.map_drop]; rfl
        have BF := Lib.hid hBf
        have BM := Lib.hid hBm
        have hBl : B.length ≤ 12 := by rw [hB]; simp; omega
        clear h11 hB hBf hBm
        refine hK.out _ _ trivial (fun _ => ?_)
        clear hK K
        (try simp only [Act.put, List.setIfInBounds_toArray, List.set_cons_zero, List.set_cons_succ])
        refine wpAnyH_tail 10 rfl (by kernel_rfl) (by kernel_rfl) (fun _ => trivial) ?_
        simp only [List.drop_succ_cons, List.drop_zero]
        repeat (quiet_step (fail))
        refine wpQuiet_nil ?_
        rintro _ ⟨nq, rfl⟩
        have gq : Grew w11 (w11.drewN nq) := Drew.grew ⟨nq, rfl⟩
        have R12 := Lib.hid (R9.out.grew (G11.trans gq))
        have B12 := Lib.hid (BF.out.grew gq)
        have G12 := (G9.trans G11).trans gq
        generalize w11.drewN nq = w12 at R12 B12 G12 ⊢
        clear gq BF R9 H10
        go_wp2_with fail
        go_loopw [16] (fun ix wr => ∃ j : Nat, j ≤ n9 ∧ ix = .int .i64 j ∧ RowKit.Hid (∀ t (ht : t < fs.length), t < j → ¬ (fs[t].1 = N ∧ 0 < p)) ∧ Grew w12 wr) (fun ix _ => n9 - (intOf ix).toNat)
        case atStart => exact ⟨0, Nat.zero_le _, rfl, Lib.hid fun t _ ht => absurd ht (Nat.not_lt_zero t), Below.refl _ _⟩
        case round =>
          obtain ⟨j, hj, rfl, hno, hG2⟩ := hrel
          by_cases hjl : j < n9
          · have hj7 : j < fs.length := by rw [← EN9.out]; exact hjl
            obtain ⟨b1, o1, rfl, hc1⟩ := (R12.out.grew hG2).cells (by omega)
            obtain ⟨x0, -, -⟩ := hc1 j hj7
            have hno2 : ¬ (fs[j].1 = N ∧ 0 < p) → RowKit.Hid (∀ t (ht : t < fs.length), t < j + 1 → ¬ (fs[t].1 = N ∧ 0 < p)) := by
              intro h6
              refine Lib.hid fun t ht htj => ?_
              by_cases h7 : t < j
              · exact hno.out t ht h7
              · obtain rfl : t = j := by omega
                exact h6
            have HNO := Lib.hid hno2
            clear hno2 hno hc1
            generalize fs[j].1 = q at x0 HNO
            have z0 : (0 : Int) ≤ (j : Int) := by omega
            have z1 : (j : Int) < (n9 : Int) := by omega
            by_cases hqN : q = N
            · by_cases hp0 : 0 < p
              · have zq : ((q : Int) == (N : Int)) = true := by rw [hqN]; simp
                have zp : (0 : Int) < (p : Int) := by omega
                clear hqN HNO
                go_wp2
                go_ret
                exact ⟨rfl, G12.trans hG2⟩
              · have zq : ((q : Int) == (N : Int)) = true := by rw [hqN]; simp
                have hno3 := HNO.out (fun h => hp0 h.2)
                have zp : ¬ (0 : Int) < (p : Int) := by omega
                clear hqN HNO
                go_wp2
                go_roundw
                case rel => exact ⟨j + 1, by omega, by go_num, hno3, hG2⟩
                case measure => simp [intOf]; omega
            · have zq : ((q : Int) == (N : Int)) = false := by rw [beq_eq_false_iff_ne]; omega
              have hno3 := HNO.out (fun h => hqN h.1)
              clear HNO hqN
              go_wp2
              go_roundw
              case rel => exact ⟨j + 1, by omega, by go_num, hno3, hG2⟩
              case measure => simp [intOf]; omega
          · obtain rfl : j = n9 := by omega
            have hmap : fs.map (·.2) = B.map (·.1) := by
              rw [BM.out]
              rcases HL2.out with ⟨h1, x, hx, hxe⟩ | h1
              · obtain ⟨t, ht, rfl⟩ := List.getElem_of_mem hx
                exact absurd ⟨hxe, h1⟩ (hno.out t ht (by rw [EN9.out]; exact ht))
              · exact h1
            have hnB : j = B.length := by
              have h1 := congrArg List.length hmap
              rw [List.length_map, List.length_map] at h1
              rw [EN9.out, h1]
            have HMP := Lib.hid hmap
            have HNB := Lib.hid hnB
            have hz9 : ((j : Int) != (B.length : Int)) = false := by rw [hnB]; simp
            clear hno hmap hnB
            have G13 := G12.trans hG2
            have R13 := Lib.hid (R12.out.grew hG2)
            have B13 := Lib.hid (B12.out.grew hG2)
            generalize wr = w13 at G13 R13 B13 ⊢
            go_wp2_with fail
            go_loopw [17] (fun ix wr => ∃ t : Nat, t ≤ B.length ∧ ix = .int .i64 t ∧ Grew w13 wr) (fun ix _ => B.length - (intOf ix).toNat)
            case atStart => exact ⟨0, Nat.zero_le _, rfl, Below.refl _ _⟩
            case round =>
              obtain ⟨t, ht, rfl, hG3⟩ := hrel
              by_cases htl : t < B.length
              · have ht7 : t < fs.length := by rw [← EN9.out, HNB.out]; exact htl
                obtain ⟨b1, o1, rfl, hc1⟩ := (R13.out.grew hG3).cells (by omega)
                obtain ⟨x0, x1, ru, x2, x3⟩ := hc1 t ht7
                obtain ⟨b2, o2, rfl, hc2⟩ := (B13.out.grew hG3).cells (by omega)
                obtain ⟨y0, y1, y2⟩ := hc2 t htl
                have hff : fs[t].2 = B[t].1 := by
                  have h1 : (fs.map (·.2))[t]? = some fs[t].2 := by rw [List.getElem?_map, List.getElem?_eq_getElem ht7]; rfl
                  rw [HMP.out, List.getElem?_map, List.getElem?_eq_getElem htl] at h1
                  exact (Option.some.inj h1).symm
                rw [hff] at x1 x3
                generalize B[t].1 = ff at x1 x3 y0 y2
                obtain ⟨ra1, ra2, ra3, rfl, -⟩ := bs_shape x3
                obtain ⟨sa, sc, e'⟩ := bs_len y2
                rw [e'] at y1 y2
                have ks : ∀ W', Grew wr W' → _ := fun W' g => frsame_any ff ff _ _ W' (x3.grew g) (y2.grew g)
                rw [show (ff == ff) = true by simp] at ks
                have KS := Lib.hid ks
                have z0 : (0 : Int) ≤ (t : Int) := by omega
                have z1 : (t : Int) < (B.length : Int) := by omega
                have z2 : (t : Int) < (j : Int) := by rw [HNB.out]; omega
                clear hc1 hc2 x3 y2 e' ks hff
                go_wp2_with fail
                go_region_with (go_at_call 26; refine (KS.out _ (Drew.grew ⟨1, rfl⟩)).mono ?_; rintro y w14 ⟨rfl, g14⟩)
                all_goals go_wp2
                all_goals go_roundw
                all_goals first
                  | exact ⟨t + 1, by omega, by go_num, (hG3.trans (Drew.grew ⟨1, rfl⟩ : Grew wr wr.drew)).trans g14⟩
                  | (simp [intOf]; omega)
              · obtain rfl : t = B.length := by omega
                go_wp2
                go_ret
                exact ⟨rfl, G13.trans hG3⟩
end Go.Proofs.Ytoinndlialimcaa
