/- The law WholeJunk returns true: its walk. -/
import Derived.Test.YtoinndlialimcaaAwS
import Derived.Test.YtoinndlialimcaaStL
import Derived.Test.YtoinndlialimcaaFr7
namespace Go.Proofs.Ytoinndlialimcaa
open Go Go.RowKit Go.Shelf

theorem weave_len (fs : List Frm) (junk : List (List UInt8)) (hf : ∀ f ∈ fs, f.2.length ≤ 300) : ∀ n : Nat, (∀ i, i < n → (jk junk i).length ≤ 300) → (weave fs junk n).length ≤ n * 609
  | 0, _ => by simp [weave]
  | n + 1, h => by
    have h1 := weave_len fs junk hf n (fun i hi => h i (by omega))
    have h2 := h n (by omega)
    have h3 : (fk fs n).length ≤ 309 := by
      unfold fk
      split
      · rw [fput_length]; have := hf _ (List.getElem_mem (by assumption : n < fs.length)); omega
      · simp
    unfold weave
    rw [List.length_append, List.length_append]
    omega
theorem junkN_len (fs : List Frm) (junk : List (List UInt8)) : ∀ n : Nat, junkN junk n ≤ (weave fs junk n).length
  | 0 => by simp [junkN]
  | n + 1 => by
    have := junkN_len fs junk n
    unfold weave junkN
    rw [List.length_append, List.length_append]
    omega
set_option maxRecDepth 100000 in
set_option maxHeartbeats 8000000 in
theorem wjunk_walk (A : List FA) (J : List Pc) (v u : Value) (w : World) (h : FsR w v A) (hj : Sl w u J.length 1 (J.map (·.1))) (hjb : ∀ x ∈ J, Bs w x.1 x.2) :
    Calls Try.prog 7 #[v, u] w fun e w' => e = .returned (.bool true) ∧ Grew w w' := by
  obtain ⟨a, n, c, rfl, hn, h1, h2⟩ := h.open
  subst hn
  obtain ⟨ua, uc, rfl, u1, u2, -, u4⟩ := hj.open
  unfold maxLen at u2
  have HA := Lib.hid h
  have HJ := Lib.hid hjb
  have HU := Lib.hid u4
  have KFEW := Lib.hid (fun W (g : Grew w W) => few_any A _ W (h.grew g))
  clear h hj hjb u4
  by_cases hfew : fewL (A.map (·.1)) = true
  case neg =>
    have hf : fewL (A.map (·.1)) = false := by simpa using hfew
    rw [hf] at KFEW
    clear hfew hf
    go_enter Try.func7, Try.ntmps7
    go_wp2_with fail
    refine (awakeS_any _).mono ?_
    rintro e w1 ⟨rfl, g1⟩
    go_wp2_with fail
    refine (KFEW.out _ g1).mono ?_
    rintro e w2 ⟨rfl, rfl⟩
    go_wp2
    go_ret
    exact ⟨rfl, g1⟩
  rw [hfew] at KFEW
  by_cases hq : 20 < J.length
  · clear hfew
    go_enter Try.func7, Try.ntmps7
    go_wp2_with fail
    refine (awakeS_any _).mono ?_
    rintro e w1 ⟨rfl, g1⟩
    go_wp2_with fail
    refine (KFEW.out _ g1).mono ?_
    rintro e w2 ⟨rfl, rfl⟩
    go_wp2
    go_ret
    exact ⟨rfl, g1⟩
  have hq' : J.length ≤ 20 := by omega
  have hall : ∀ f ∈ A.map (·.1), f.2.length ≤ 300 := by
    intro f hm
    have := (Bool.and_eq_true_iff.1 hfew).2
    have := List.all_eq_true.1 this f hm
    simpa using this
  have hln : A.length ≤ 12 := by have := (Bool.and_eq_true_iff.1 hfew).1; simpa using this
  have HALL := Lib.hid hall
  clear hfew hq hall
  go_enter Try.func7, Try.ntmps7
  go_wp2_with fail
  refine (awakeS_any _).mono ?_
  rintro e w1 ⟨rfl, g1⟩
  go_wp2_with fail
  refine (KFEW.out _ g1).mono ?_
  rintro e w2 ⟨rfl, rfl⟩
  go_wp2_with fail
  go_loopw [5, 6, 7] (fun vb vp i wr => ∃ k : Nat, k ≤ A.length + 1 ∧ i = .int .i64 k ∧ OwnB wr w1.heap.size vb (weave (A.map (·.1)) (J.map (·.2)) k) ∧ vp = .int .i64 (junkN (J.map (·.2)) k : Nat) ∧ RowKit.Hid (∀ j, j < k → (jk (J.map (·.2)) j).length ≤ 300 ∧ ∀ x ∈ jk (J.map (·.2)) j, x ≠ 197) ∧ Grew w1 wr) (fun _ _ i _ => A.length + 1 - (intOf i).toNat)
  case atStart => exact ⟨0, Nat.zero_le _, rfl, ownB_nil _ _, rfl, Lib.hid (fun j hj => absurd hj (Nat.not_lt_zero j)), Below.refl _ _⟩
  case round =>
    obtain ⟨k, hk, rfl, hown, rfl, hall, hG⟩ := hrel
    have hwl := weave_len (A.map (·.1)) (J.map (·.2)) HALL.out k (fun i hi => (hall.out i hi).1)
    have hjn := junkN_len (A.map (·.1)) (J.map (·.2)) k
    have hk13 : k ≤ 13 := by omega
    have hwl2 : (weave (A.map (·.1)) (J.map (·.2)) k).length ≤ 7917 := by
      have := Nat.mul_le_mul_right 609 hk13
      omega
    clear hwl
    by_cases hlt : k ≤ A.length
    · have zk : (k : Int) ≤ (A.length : Int) := by omega
      have z0 : (0 : Int) ≤ (k : Int) := by omega
      by_cases hkj : k < J.length
      · have zj : (k : Int) < (J.length : Int) := by omega
        obtain ⟨bj, oj, rfl, cj⟩ := HU.out (by omega)
        have x00 := cj k J[k].1 (by simp [hkj])
        have hb := HJ.out J[k] (List.getElem_mem hkj)
        have hjk : jk (J.map (·.2)) k = J[k].2 := by unfold jk; rw [dif_pos (by rw [List.length_map]; exact hkj)]; simp
        generalize J[k].1 = jv at x00 hb
        generalize J[k].2 = jb at hb hjk
        obtain ⟨ja, jc, rfl, jc1, jc2, -, jcell⟩ := hb.open
        unfold maxLen at jc2
        have X0 := Lib.hid (fun W' (g : Grew w W') => (below_ext g) _ _ x00)
        have x0 := X0.out wr (g1.trans hG)
        have JC := Lib.hid jcell
        have JB := Lib.hid hb
        have JK := Lib.hid hjk
        have OW := Lib.hid hown
        obtain ⟨oa, oc, rfl⟩ := bs_len (Sl.of_own hown)
        obtain ⟨W, hW⟩ : ∃ W, W = weave (A.map (·.1)) (J.map (·.2)) k := ⟨_, rfl⟩
        have HW := Lib.hid hW
        rw [← hW] at OW hjn hwl2 ⊢
        obtain ⟨N, hN⟩ : ∃ N, N = junkN (J.map (·.2)) k := ⟨_, rfl⟩
        have HN := Lib.hid hN
        rw [← hN] at hjn ⊢
        clear cj jcell hb hjk hown hW hN x00
        by_cases h3 : 300 < jb.length
        · go_wp2
          go_ret
          exact ⟨rfl, g1.trans hG⟩
        · have h3' : (jb.length : Int) ≤ 300 := by omega
          go_wp2_with fail
          go_loop [8] (fun i => ∃ j : Nat, j ≤ jb.length ∧ i = .int .i64 j ∧ RowKit.Hid (∀ t (ht : t < jb.length), t < j → jb[t] ≠ 197)) (fun i => jb.length - (intOf i).toNat)
          case atStart => exact ⟨0, Nat.zero_le _, rfl, Lib.hid fun t _ ht => absurd ht (Nat.not_lt_zero t)⟩
          case round =>
            obtain ⟨j, hj, rfl, hno⟩ := hrel
            by_cases hjl : j < jb.length
            · obtain ⟨bb, ob, rfl, cb⟩ := JC.out (by omega)
              have y0 := (below_ext (g1.trans hG)) _ _ (cb j _ (bv_get jb j hjl))
              have zj0 : (0 : Int) ≤ (j : Int) := by omega
              have zj1 : (j : Int) < (jb.length : Int) := by omega
              by_cases h5 : jb[j] = 197
              · have hv : ((jb[j].toNat : Int) == 197) = true := by rw [h5]; rfl
                clear cb
                go_wp2
                go_ret
                exact ⟨rfl, g1.trans hG⟩
              · have hv : ((jb[j].toNat : Int) == 197) = false := by
                  rw [beq_eq_false_iff_ne]
                  intro e
                  exact h5 (UInt8.toNat_inj.1 (by show jb[j].toNat = 197; omega))
                have hno2 : RowKit.Hid (∀ t (ht : t < jb.length), t < j + 1 → jb[t] ≠ 197) := by
                  refine Lib.hid fun t ht htj => ?_
                  by_cases h6 : t < j
                  · exact hno.out t ht h6
                  · obtain rfl : t = j := by omega
                    exact h5
                clear cb hno
                go_wp2
                go_round
                case rel => exact ⟨j + 1, by omega, by go_num, hno2⟩
                case measure => simp [intOf]; omega
            · obtain rfl : j = jb.length := by omega
              have hall2 : RowKit.Hid (∀ j, j < k + 1 → (jk (J.map (·.2)) j).length ≤ 300 ∧ ∀ x ∈ jk (J.map (·.2)) j, x ≠ 197) := by
                refine Lib.hid fun j hjk => ?_
                by_cases h6 : j < k
                · exact hall.out j h6
                · obtain rfl : j = k := by omega
                  rw [JK.out]
                  refine ⟨by omega, fun x hx => ?_⟩
                  obtain ⟨t, ht, rfl⟩ := List.getElem_of_mem hx
                  exact hno.out t ht ht
              obtain ⟨X, hX⟩ : ∃ X, X = W ++ jb := ⟨_, rfl⟩
              have hXle : X.length ≤ 8217 := by rw [hX, List.length_append]; omega
              have XX := Lib.hid hX
              have HX : RowKit.Hid (X = weave (A.map (·.1)) (J.map (·.2)) k ++ jk (J.map (·.2)) k) := Lib.hid (by rw [hX, HW.out, JK.out])
              clear hX
              have HP : RowKit.Hid (junkN (J.map (·.2)) (k + 1) = N + jb.length) := Lib.hid (by unfold junkN; rw [← HN.out, JK.out])
              clear hno hall
              by_cases hka : k < A.length
              · obtain ⟨ba, oa2, rfl, hcl⟩ := HA.out.cells (by omega)
                obtain ⟨f0, f1, f2⟩ := hcl k hka
                have hfk : fk (A.map (·.1)) k = fput A[k].1 := by unfold fk; rw [dif_pos (by rw [List.length_map]; exact hka)]; simp
                have hfl := HALL.out A[k].1 (List.mem_map.2 ⟨_, List.getElem_mem hka, rfl⟩)
                generalize A[k].1 = f at f0 f2 hfk hfl
                obtain ⟨fa, fc, e⟩ := bs_len f2
                rw [e] at f1 f2
                have FK := Lib.hid hfk
                have F2 := Lib.hid f2
                have hpl : (fput f).length ≤ 309 := by rw [fput_length]; omega
                have za : (k : Int) < (A.length : Int) := by omega
                clear hcl e f2 hfk
                go_wp2_with (first
                  | (at_builtin; refine wpList_push rfl _ _ rfl w1.heap.size _ W rfl OW.out _ rfl jb (JB.out.grew (g1.trans hG)) (by omega) hG.size ?_; intro v4 w4 hown4 hB4 _; have G4 : Grew w1 w4 := Below.trans hG hB4; have x4 := X0.out w4 (g1.trans G4); have f04 := (below_ext (g1.trans G4)) _ _ f0; have f14 := (below_ext (g1.trans G4)) _ _ f1; rw [← XX.out] at hown4; obtain ⟨oa4, oc4, rfl⟩ := bs_len (Sl.of_own hown4); have O4 := Lib.hid hown4; clear hown4))
                refine (r13put_any f _ _ (F2.out.grew (g1.trans G4)) (by omega)).mono ?_
                rintro e w5 ⟨v5, rfl, o5, g5⟩
                have s5 := Lib.hid (Sl.of_own o5)
                obtain ⟨a5, n5, c5, rfl, -⟩ := bs_shape s5.out
                have GG := (show Grew w1 w4 from G4).trans g5
                have OO := Lib.hid (own_grew O4.out g5)
                clear o5 f0 f1
                go_wp2_with (at_builtin; refine wpList_push rfl _ _ rfl w1.heap.size _ (X) rfl OO.out _ rfl (fput f) s5.out (by omega) GG.size ?_; intro v6 w6 hown6 hB6 _)
                go_roundw
                case rel => exact ⟨k + 1, by omega, by go_num, by rw [show weave (A.map (·.1)) (J.map (·.2)) (k + 1) = X ++ fput f by rw [← FK.out, HX.out]; rfl]; exact hown6, by first | (rw [HP.out]; done) | (rw [HP.out]; push_cast; rfl), hall2, Below.trans GG hB6⟩
                case measure => simp [intOf]; omega
              · have hfk : fk (A.map (·.1)) k = [] := by unfold fk; rw [dif_neg (by rw [List.length_map]; exact hka)]
                have FK := Lib.hid hfk
                have za : (A.length : Int) ≤ (k : Int) := by omega
                clear hfk
                go_wp2_with (first
                  | (at_builtin; refine wpList_push rfl _ _ rfl w1.heap.size _ W rfl OW.out _ rfl jb (JB.out.grew (g1.trans hG)) (by omega) hG.size ?_; intro v4 w4 hown4 hB4 _; have G4 : Grew w1 w4 := Below.trans hG hB4; have x4 := X0.out w4 (g1.trans G4); rw [← XX.out] at hown4; obtain ⟨oa4, oc4, rfl⟩ := bs_len (Sl.of_own hown4); have O4 := Lib.hid hown4; clear hown4))
                go_roundw
                case rel => exact ⟨k + 1, by omega, by go_num, by rw [show weave (A.map (·.1)) (J.map (·.2)) (k + 1) = X by rw [HX.out]; show _ ++ fk _ _ = _; rw [FK.out, List.append_nil]]; exact O4.out, by first | (rw [HP.out]; done) | (rw [HP.out]; push_cast; rfl), hall2, G4⟩
                case measure => simp [intOf]; omega
      · have zj : (J.length : Int) ≤ (k : Int) := by omega
        have hjk : jk (J.map (·.2)) k = [] := by unfold jk; rw [dif_neg (by rw [List.length_map]; exact hkj)]
        have hall2 : RowKit.Hid (∀ j, j < k + 1 → (jk (J.map (·.2)) j).length ≤ 300 ∧ ∀ x ∈ jk (J.map (·.2)) j, x ≠ 197) := by
          refine Lib.hid fun j hjk2 => ?_
          by_cases h6 : j < k
          · exact hall.out j h6
          · obtain rfl : j = k := by omega
            rw [hjk]; exact ⟨by simp, fun x hx => by cases hx⟩
        have OW := Lib.hid hown
        obtain ⟨oa, oc, rfl⟩ := bs_len (Sl.of_own hown)
        obtain ⟨W, hW⟩ : ∃ W, W = weave (A.map (·.1)) (J.map (·.2)) k := ⟨_, rfl⟩
        rw [← hW] at OW hjn hwl2 ⊢
        obtain ⟨N, hN⟩ : ∃ N, N = junkN (J.map (·.2)) k := ⟨_, rfl⟩
        rw [← hN] at hjn ⊢
        have HX : RowKit.Hid (W = weave (A.map (·.1)) (J.map (·.2)) k ++ jk (J.map (·.2)) k) := Lib.hid (by rw [hjk, List.append_nil]; exact hW)
        have HP : RowKit.Hid (junkN (J.map (·.2)) (k + 1) = N) := Lib.hid (by unfold junkN; rw [← hN, hjk]; rfl)
        clear hall hown hW hN hjk
        by_cases hka : k < A.length
        · obtain ⟨ba, oa2, rfl, hcl⟩ := HA.out.cells (by omega)
          obtain ⟨f0, f1, f2⟩ := hcl k hka
          have hfk : fk (A.map (·.1)) k = fput A[k].1 := by unfold fk; rw [dif_pos (by rw [List.length_map]; exact hka)]; simp
          have hfl := HALL.out A[k].1 (List.mem_map.2 ⟨_, List.getElem_mem hka, rfl⟩)
          generalize A[k].1 = f at f0 f2 hfk hfl
          obtain ⟨fa, fc, e⟩ := bs_len f2
          rw [e] at f1 f2
          have FK := Lib.hid hfk
          have F2 := Lib.hid f2
          have hpl : (fput f).length ≤ 309 := by rw [fput_length]; omega
          have za : (k : Int) < (A.length : Int) := by omega
          clear hcl e f2 hfk
          have f04 := (below_ext (g1.trans hG)) _ _ f0
          have f14 := (below_ext (g1.trans hG)) _ _ f1
          go_wp2_with fail
          refine (r13put_any f _ _ (F2.out.grew (g1.trans hG)) (by omega)).mono ?_
          rintro e w5 ⟨v5, rfl, o5, g5⟩
          have s5 := Lib.hid (Sl.of_own o5)
          obtain ⟨a5, n5, c5, rfl, -⟩ := bs_shape s5.out
          have GG := (show Grew w1 wr from hG).trans g5
          have OO := Lib.hid (own_grew OW.out g5)
          clear o5 f0 f1
          go_wp2_with (at_builtin; refine wpList_push rfl _ _ rfl w1.heap.size _ (W) rfl OO.out _ rfl (fput f) s5.out (by omega) GG.size ?_; intro v6 w6 hown6 hB6 _)
          go_roundw
          case rel => exact ⟨k + 1, by omega, by go_num, by rw [show weave (A.map (·.1)) (J.map (·.2)) (k + 1) = W ++ fput f by rw [← FK.out, HX.out]; rfl]; exact hown6, by first | (rw [HP.out]; done) | (rw [HP.out]; push_cast; rfl), hall2, Below.trans GG hB6⟩
          case measure => simp [intOf]; omega
        · have hfk : fk (A.map (·.1)) k = [] := by unfold fk; rw [dif_neg (by rw [List.length_map]; exact hka)]
          have FK := Lib.hid hfk
          have za : (A.length : Int) ≤ (k : Int) := by omega
          clear hfk
          go_wp2
          go_roundw
          case rel => exact ⟨k + 1, by omega, by go_num, by rw [show weave (A.map (·.1)) (J.map (·.2)) (k + 1) = W by rw [HX.out]; show _ ++ fk _ _ = _; rw [FK.out, List.append_nil]]; exact OW.out, by first | (rw [HP.out]; done) | (rw [HP.out]; push_cast; rfl), hall2, hG⟩
          case measure => simp [intOf]; omega
    · obtain rfl : k = A.length + 1 := by omega
      have hwa := weave_all (A.map (·.1)) (J.map (·.2)) (fun f hf => by have := HALL.out f hf; omega) (fun i hi => (hall.out i (by rw [List.length_map] at hi; exact hi)).2)
      rw [List.length_map] at hwa
      obtain ⟨W, hW⟩ : ∃ W, W = weave (A.map (·.1)) (J.map (·.2)) (A.length + 1) := ⟨_, rfl⟩
      obtain ⟨N, hN⟩ : ∃ N, N = junkN (J.map (·.2)) (A.length + 1) := ⟨_, rfl⟩
      rw [← hW, ← hN] at hwa
      rw [← hW] at hown hjn hwl2
      rw [← hN] at hjn ⊢
      obtain ⟨wa1, wa2, wa3⟩ := hwa
      have OW := Lib.hid hown
      obtain ⟨oa, oc, rfl⟩ := bs_len (Sl.of_own hown)
      have zk : (A.length : Int) < ((A.length + 1 : Nat) : Int) := by omega
      have k7 := all_any W _ wr (Sl.of_own hown) (by omega)
      have k8 := fun W' (g : Grew wr W') => passed_any W _ W' ((Sl.of_own hown).grew g) (by omega)
      rw [wa3] at k7
      rw [wa2] at k8
      generalize (walkL false W 0).1 = fs at k7 wa1
      have hfl : fs.length = A.length := by rw [← List.length_map (f := (·.2)), wa1, List.length_map]
      have K7 := Lib.hid k7
      have K8 := Lib.hid k8
      have WA1 := Lib.hid wa1
      clear hall hown hW hN k7 k8 wa1 wa2 wa3
      push_cast
      go_wp2_with fail
      refine K7.out.mono ?_
      rintro e w7 ⟨v7, rfl, r7, g7⟩
      obtain ⟨a7, n7, c7, rfl, en7, -, -⟩ := r7.shape
      have R7 := Lib.hid r7.frs
      have hz7 : ((n7 : Int) != (A.length : Int)) = false := by rw [en7, hfl]; simp
      have EN7 := Lib.hid en7
      have HFL := Lib.hid hfl
      clear r7 en7 hfl
      go_wp2_with fail
      refine (K8.out w7 g7).mono ?_
      rintro e w8 ⟨rfl, g8⟩
      have G8 := ((g1.trans hG).trans g7).trans g8
      go_wp2_with fail
      go_loopw [11] (fun i wq => ∃ j : Nat, j ≤ A.length ∧ i = .int .i64 j ∧ Grew w8 wq) (fun i _ => A.length - (intOf i).toNat)
      case atStart => exact ⟨0, Nat.zero_le _, rfl, Below.refl _ _⟩
      case round =>
        obtain ⟨j, hj, rfl, hG2⟩ := hrel
        by_cases hjl : j < A.length
        · have hj7 : j < fs.length := by rw [HFL.out]; exact hjl
          obtain ⟨b1, o1, rfl, hc1⟩ := (R7.out.grew (g8.trans hG2)).cells (by omega)
          obtain ⟨x0, x1, ru, x2, x3⟩ := hc1 j hj7
          obtain ⟨b2, o2, rfl, hc2⟩ := (HA.out.grew (G8.trans hG2)).cells (by omega)
          obtain ⟨y0, y1, y2⟩ := hc2 j hjl
          have hff : fs[j].2 = A[j].1 := by
            have h1 : (fs.map (·.2))[j]? = some fs[j].2 := by rw [List.getElem?_map, List.getElem?_eq_getElem hj7]; rfl
            rw [WA1.out, List.getElem?_map, List.getElem?_eq_getElem hjl] at h1
            exact (Option.some.inj h1).symm
          rw [hff] at x1 x3
          generalize A[j].1 = f at x1 x3 y0 y2
          obtain ⟨ra1, ra2, ra3, rfl, -⟩ := bs_shape x3
          obtain ⟨sa, sc, e'⟩ := bs_len y2
          rw [e'] at y1 y2
          have ks : ∀ W', Grew wr W' → _ := fun W' g => frsame_any f f _ _ W' (x3.grew g) (y2.grew g)
          rw [show (f == f) = true by simp] at ks
          have KS := Lib.hid ks
          have z0 : (0 : Int) ≤ (j : Int) := by omega
          have z1 : (j : Int) < (A.length : Int) := by omega
          have z2 : (j : Int) < (n7 : Int) := by rw [EN7.out, HFL.out]; omega
          clear hc1 hc2 x3 y2 e' ks hff
          go_wp2_with fail
          go_region_with (go_at_call 26; refine (KS.out _ (Drew.grew ⟨1, rfl⟩)).mono ?_; rintro y w9 ⟨rfl, g9⟩)
          all_goals go_wp2
          all_goals go_roundw
          all_goals first
            | exact ⟨j + 1, by omega, by go_num, (hG2.trans (Drew.grew ⟨1, rfl⟩ : Grew wr wr.drew)).trans g9⟩
            | (simp [intOf]; omega)
        · obtain rfl : j = A.length := by omega
          go_wp2
          go_ret
          exact ⟨rfl, G8.trans hG2⟩
end Go.Proofs.Ytoinndlialimcaa
