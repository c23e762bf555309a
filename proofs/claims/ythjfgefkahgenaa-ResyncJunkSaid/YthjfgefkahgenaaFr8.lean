/- The law ResyncJunk returns true: its walk. -/
import Derived.Test.YthjfgefkahgenaaFr7
namespace Go.Proofs.Ythjfgefkahgenaa
open Go Go.RowKit Go.Shelf

/-- is junk clean up to place k: no frame begins there, or could -/
def cleanTo (junk b : List UInt8) (k : Nat) : Bool := (List.range k).all fun i => byteAt junk i != 197 || !(ferr (b.drop i) == 0 || ferr (b.drop i) == 4)
theorem cleanTo_succ (junk b : List UInt8) (k : Nat) : cleanTo junk b (k + 1) = (cleanTo junk b k && (byteAt junk k != 197 || !(ferr (b.drop k) == 0 || ferr (b.drop k) == 4))) := by
  simp [cleanTo, List.range_succ]
theorem clean_ok (junk m : List UInt8) (h : cleanTo junk (junk ++ m) junk.length = true) : ∀ i, i < junk.length → ferr ((junk ++ m).drop i) ≠ 0 ∧ ferr ((junk ++ m).drop i) ≠ 4 := by
  intro i hi
  have := List.all_eq_true.1 h i (List.mem_range.2 hi)
  rw [Bool.or_eq_true] at this
  rcases this with h1 | h1
  · have hne : byteAt junk i ≠ 197 := by simpa using h1
    have hb : byteAt ((junk ++ m).drop i) 0 = byteAt junk i := by
      unfold byteAt
      rw [List.getD_eq_getElem?_getD, List.getD_eq_getElem?_getD, List.getElem?_drop, List.getElem?_append_left (by omega)]; rfl
    have : ferr ((junk ++ m).drop i) = 3 := by
      unfold ferr
      rw [if_pos (.inl ⟨by simp; omega, by rw [hb]; exact hne⟩)]
    omega
  · simp only [Bool.not_eq_true', Bool.or_eq_false_iff, beq_eq_false_iff_ne] at h1
    exact h1
theorem junk_walk (junk : List UInt8) (fs : List Frm) (h : cleanTo junk (junk ++ fjoin fs) junk.length = true) (hf : ∀ f ∈ fs, f.2.length ≤ 8192) :
    (walkL false (junk ++ fjoin fs) 0).1 = fplace junk.length fs ∧ (walkL false (junk ++ fjoin fs) 0).2.2 = (junk ++ fjoin fs).length := by
  have h1 := walk_junk false (fjoin fs) junk 0 (clean_ok junk (fjoin fs) h)
  have h2 := walk_frames false [] fs (0 + junk.length) hf
  rw [List.append_nil] at h2
  rw [h1, h2]
  simp [walkL_nil]
theorem fplace_get : ∀ (fs : List Frm) (k i : Nat) (hi : i < fs.length), (fplace k fs)[i]'(by rw [fplace_length]; exact hi) = (k + (fjoin (fs.take i)).length, fs[i])
  | f :: fs, k, 0, _ => by simp [fplace, fjoin]
  | f :: fs, k, i + 1, hi => by
    have := fplace_get fs (k + (f.2.length + 9)) i (by simpa using hi)
    simp only [fplace, List.getElem_cons_succ, this, List.take_succ_cons, fjoin, List.flatMap_cons, List.length_append, fput_length]
    rw [Nat.add_assoc]

set_option maxRecDepth 100000 in
set_option maxHeartbeats 8000000 in
theorem junk_law (junk : List UInt8) (A : List FA) (v u : Value) (w : World) (hb : Bs w v junk) (hA : FsR w u A) :
    Calls Try.prog 3 #[v, u] w fun e w' => e = .returned (.bool true) ∧ Grew w w' := by
  obtain ⟨a, c, rfl, h1, h2, -, hcc⟩ := hb.open
  unfold maxLen at h2
  obtain ⟨a', n', c', rfl, hn', h1', h2'⟩ := hA.open
  subst hn'
  by_cases hl : 1000 < junk.length
  · clear hb hcc hA
    go_enter Try.func3, Try.ntmps3
    go_wp2_with fail
    refine (live14_any _).mono ?_
    rintro e w1 ⟨rfl, g1⟩
    go_wp2
    go_ret
    exact ⟨rfl, g1⟩
  have hl' : junk.length ≤ 1000 := by omega
  have HB := Lib.hid hb
  have HA := Lib.hid hA
  have HCC := Lib.hid hcc
  clear hl hb hcc hA
  go_enter Try.func3, Try.ntmps3
  go_wp2_with fail
  refine (live14_any _).mono ?_
  rintro e w1 ⟨rfl, g1⟩
  have B1 := Lib.hid (HB.out.grew g1)
  have A1 := Lib.hid (HA.out.grew g1)
  go_wp2_with fail
  refine (few_any A _ _ A1.out).mono ?_
  rintro e w2 ⟨rfl, rfl⟩
  cases hf : fewL (A.map (·.1)) with
  | false =>
    clear hf
    go_wp2
    go_ret
    exact ⟨rfl, g1⟩
  | true =>
  have HF := Lib.hid hf
  have hall : ∀ f ∈ A.map (·.1), f.2.length ≤ 300 := by
    intro f hm
    have := (Bool.and_eq_true_iff.1 hf).2
    have := List.all_eq_true.1 this f hm
    simpa using this
  have hln : A.length ≤ 12 := by have := (Bool.and_eq_true_iff.1 hf).1; simpa using this
  have hjl : (fjoin (A.map (·.1))).length ≤ 4000 := by
    have := fjoin_few (A.map (·.1)) hall
    rw [List.length_map] at this; omega
  have HALL := Lib.hid hall
  have hjt : ∀ k, k < A.length → junk.length + (fjoin ((A.map (·.1)).take k)).length ≤ 5000 := by
    intro k hk
    have := fjoin_few ((A.map (·.1)).take k) (fun f hf => hall f (List.mem_of_mem_take hf))
    have h3 : ((A.map (·.1)).take k).length ≤ 12 := by rw [List.length_take, List.length_map]; omega
    omega
  have HJT := Lib.hid hjt
  clear hf hall hjt
  obtain ⟨J, hJ⟩ : ∃ J, J = fjoin (A.map (·.1)) := ⟨_, rfl⟩
  rw [← hJ] at hjl
  have HJ := Lib.hid hJ
  clear hJ
  go_wp2_with fail
  refine (r14join_any A _ _ A1.out HF.out).mono ?_
  rw [← HJ.out]
  rintro e w3 ⟨v3, rfl, r3, g3⟩
  have s3 := Sl.of_own r3
  obtain ⟨a3, n3, c3, rfl, -⟩ := bs_shape s3
  have S3 := Lib.hid s3
  have G3 := g1.trans g3
  have B3 := Lib.hid (B1.out.grew g3)
  have A3 := Lib.hid (A1.out.grew g3)
  clear r3 s3
  go_wp2_with fail
  refine (join_any junk J _ _ _ B3.out S3.out (by omega)).mono ?_
  rintro e w4 ⟨v4, rfl, r4, g4⟩
  obtain ⟨b, c4, hv4, -, q3, q4, q5⟩ : ∃ a c, v4 = .slice a (junk ++ J).length c ∧ True ∧ (junk ++ J).length ≤ c ∧ c ≤ 9223372036854775807 ∧ (0 < (junk ++ J).length → ∃ b off, a = some ⟨b, off, none⟩) := by
    obtain ⟨a, c, e, h1, h2, _, h4⟩ := (Sl.of_own r4).open
    unfold maxLen at h2
    exact ⟨a, c, e, trivial, h1, by omega, fun h => by obtain ⟨b, o, e, _⟩ := h4 (by omega); exact ⟨b, o, e⟩⟩
  subst hv4
  have hL : (junk ++ J).length = junk.length + J.length := List.length_append
  obtain ⟨N, hN⟩ : ∃ N, N = (junk ++ J).length := ⟨_, rfl⟩
  have S4 : RowKit.Hid (Bs w4 (.slice b N c4) (junk ++ J)) := by rw [hN]; exact Sl.of_own r4
  rw [← hN] at q3 q5 ⊢
  rw [← hN] at hL
  have hN1 : junk.length ≤ N := by omega
  have hN2 : N ≤ 5000 := by omega
  have HN := Lib.hid hN
  have HQ5 := Lib.hid q5
  have G4 := G3.trans g4
  have B4 := Lib.hid (B3.out.grew g4)
  have A4 := Lib.hid (A3.out.grew g4)
  clear r4 hN q5 hL
  go_wp2
  go_loopw [7, 8] (fun cl i wr => (∃ k : Nat, k ≤ junk.length ∧ i = .int .i64 k ∧ cl = .bool (cleanTo junk (junk ++ J) k)) ∧ Grew w4 wr) (fun _ i _ => junk.length - (intOf i).toNat)
  case atStart => exact ⟨⟨0, Nat.zero_le _, rfl, rfl⟩, Below.refl _ _⟩
  case round =>
    obtain ⟨⟨k, hk, rfl, rfl⟩, gr⟩ := hrel
    by_cases hlt : k < junk.length
    · have hs := cleanTo_succ junk (junk ++ J) k
      generalize cleanTo junk (junk ++ J) k = cl at hs ⊢
      have HS := Lib.hid hs
      clear hs
      cases cl with
      | false =>
        go_wp2
        go_roundw
        case rel => exact ⟨⟨k + 1, by omega, by go_num, by rw [HS.out]; rfl⟩, gr⟩
        case measure => simp [intOf]; omega
      | true =>
        obtain ⟨b1, o1, rfl, hc1⟩ := HCC.out (by omega)
        have x := (below_ext gr) _ _ ((below_ext (Grew.trans g1 (Grew.trans g3 g4))) _ _ (hc1 k _ (bv_at junk k hlt)))
        have hB := byteAt_lt junk k
        generalize byteAt junk k = y at x HS hB
        have hne : ((y : Int) != 197) = (y != 197) := by
          have := i64_ne y 197; simpa [bne] using this
        have HNE := Lib.hid hne
        clear hc1 hne
        cases hy : (y != 197) with
        | true =>
          have q1 : ((y : Int) != 197) = true := by rw [HNE.out, hy]
          have HY := Lib.hid hy
          clear hy
          go_wp2
          go_roundw
          case rel => exact ⟨⟨k + 1, by omega, by go_num, by rw [HS.out, HY.out]; rfl⟩, gr⟩
          case measure => simp [intOf]; omega
        | false =>
          have q1 : ((y : Int) != 197) = false := by rw [HNE.out, hy]
          have HY := Lib.hid hy
          obtain ⟨b2, o2, rfl⟩ := HQ5.out (by omega)
          have hz : ¬ c4 = k := by omega
          have kc := could_any ((junk ++ J).drop k) _ _ (bs_drop (S4.out.grew gr) k (by omega)) (by rw [List.length_drop, ← HN.out]; omega)
          generalize (ferr ((junk ++ J).drop k) == 0 || ferr ((junk ++ J).drop k) == 4) = cb at kc HS
          have KC := Lib.hid kc
          clear hy kc
          go_wp2_with fail
          refine KC.out.mono ?_
          rintro e w5 ⟨rfl, g5⟩
          cases cb
          all_goals (
            go_wp2
            go_roundw
            case rel => exact ⟨⟨k + 1, by omega, by go_num, by rw [HS.out, HY.out]; rfl⟩, gr.trans g5⟩
            case measure => simp [intOf]; omega)
    · obtain rfl : k = junk.length := by omega
      cases hcl : cleanTo junk (junk ++ J) junk.length with
      | false =>
        clear hcl
        go_wp2
        go_ret
        exact ⟨rfl, G4.trans gr⟩
      | true =>
      have hjw := junk_walk junk (A.map (·.1)) (by rw [← HJ.out]; exact hcl) (fun f hm => by have := HALL.out f hm; omega)
      rw [← HJ.out] at hjw
      have HJW := Lib.hid hjw
      clear hcl hjw
      go_wp2_with fail
      have k6 := all_any (junk ++ J) _ _ (S4.out.grew gr) (by rw [← HN.out]; omega)
      rw [HJW.out.1, HJW.out.2, ← HN.out] at k6
      refine k6.mono ?_
      clear k6
      rintro e w6 ⟨v6, rfl, r6, g6⟩
      obtain ⟨a6, n6, c6, rfl, en6, t6, s6⟩ := r6.shape
      have hn6 : n6 = A.length := by rw [en6, fplace_length, List.length_map]
      subst hn6
      have R6 := Lib.hid r6.frs
      have g46 := gr.trans g6
      have e1 : ((A.length : Int) != (A.length : Int)) = false := by simp
      have e2 : ((N : Int) != (N : Int)) = false := by simp
      clear r6 en6
      go_wp2
      go_loopw [11, 12] (fun pv i wr => (∃ k : Nat, k ≤ A.length ∧ i = .int .i64 k ∧ pv = .int .i64 ((junk.length + (fjoin ((A.map (·.1)).take k)).length : Nat) : Int)) ∧ Grew w6 wr) (fun _ i _ => A.length - (intOf i).toNat)
      case atStart => exact ⟨⟨0, Nat.zero_le _, rfl, by simp [fjoin]⟩, Below.refl _ _⟩
      case round =>
        obtain ⟨⟨j, hj, rfl, rfl⟩, gr2⟩ := hrel
        by_cases hjt : j < A.length
        · have hjm : j < (A.map (·.1)).length := by rw [List.length_map]; exact hjt
          have hjf : j < (fplace junk.length (A.map (·.1))).length := by rw [fplace_length]; exact hjm
          obtain ⟨b1, o1, rfl, hc1⟩ := R6.out.cells (by omega)
          obtain ⟨x0, x1, xu, x2, x3⟩ := hc1 j hjf
          rw [fplace_get _ _ _ hjm] at x0 x1 x3
          simp only [List.getElem_map] at x0 x1 x3
          obtain ⟨b2, o2, rfl, hc2⟩ := A4.out.cells (by omega)
          obtain ⟨y0, y1, y2⟩ := hc2 j hjt
          have g02 := Grew.trans g46 gr2
          replace x0 := (below_ext gr2) _ _ x0
          replace x1 := (below_ext gr2) _ _ x1
          replace x2 := (below_ext gr2) _ _ x2
          replace x3 := x3.grew gr2
          replace y0 := (below_ext g02) _ _ y0
          replace y1 := (below_ext g02) _ _ y1
          replace y2 := y2.grew g02
          have hp := HJT.out j hjt
          have hs : (A.map (·.1)).take (j + 1) = (A.map (·.1)).take j ++ [A[j].1] := by rw [List.take_succ_eq_append_getElem hjm]; simp
          have hle := HALL.out A[j].1 (List.mem_map.2 ⟨_, List.getElem_mem hjt, rfl⟩)
          obtain ⟨P, hP⟩ : ∃ P, P = junk.length + (fjoin ((A.map (·.1)).take j)).length := ⟨_, rfl⟩
          have hP2 : junk.length + (fjoin ((A.map (·.1)).take (j + 1))).length = P + (A[j].1.2.length + 9) := by rw [hs, fjoin_snoc, List.length_append, fput_length, hP]; omega
          rw [← hP] at x0 hp ⊢
          obtain ⟨ra1, ra2, ra3, rfl, -⟩ := bs_shape x3
          obtain ⟨sa1, sa2, sa3, e, hsa⟩ := bs_shape y2
          rw [e] at y1 y2
          have hsa' := hsa.out
          rw [← hsa'] at hP2 hle
          generalize A[j].1 = f at x1 x3 y0 y2
          have HP2 := Lib.hid hP2
          have hpp : ((P : Int) != (P : Int)) = false := by simp
          have z0 : (0 : Int) ≤ (j : Int) := by omega
          have z1 : (j : Int) < (A.length : Int) := by omega
          have gD : Grew wr wr.drew := Drew.grew ⟨1, rfl⟩
          have kc := frsame_any f f _ _ wr.drew (x3.grew gD) (y2.grew gD)
          simp only [show (f == f) = true by simp] at kc
          have KC := Lib.hid kc
          have hsz : fsize (sa2 : Int) = (sa2 : Int) + 9 := by unfold fsize; rw [if_neg (by omega)]
          have ks : ∀ W, Calls Try.prog 17 #[.int .i64 sa2] W fun e W' => e = .returned (.int .i64 ((sa2 : Int) + 9)) ∧ W = W' := fun W => by rw [← hsz]; exact fsize_any _ W (by omega) (by omega)
          have KS := Lib.hid ks
          clear hc1 hc2 x3 y2 kc hP hP2 hs e hsa hsa' hsz ks hjm hjf
          go_wp2
          go_region_held3 (fun W => W.cell? ⟨b1, o1 + j * 3, none⟩ = some (.int .i64 (P : Nat)) ∧ W.cell? ⟨b1, o1 + j * 3 + 1, none⟩ = some (.int .u8 (f.1.toNat : Int)) ∧ W.cell? ⟨b1, o1 + j * 3 + 2, none⟩ = some (.slice ra1 ra2 ra3) ∧ W.cell? ⟨b2, o2 + j * 2, none⟩ = some (.int .u8 (f.1.toNat : Int)) ∧ W.cell? ⟨b2, o2 + j * 2 + 1, none⟩ = some (.slice sa1 sa2 sa3))
            (first | go_keep | exact ⟨j0, j1, j2, j3, j4⟩) ((go_at_call 16; refine KC.out.mono ?_; rintro e9 W9 ⟨rfl, g9⟩; have j0 := (below_ext g9) _ _ x0; have j1 := (below_ext g9) _ _ x1; have j2 := (below_ext g9) _ _ x2; have j3 := (below_ext g9) _ _ y0; have j4 := (below_ext g9) _ _ y1))
          go_wp2_with fail
          refine (KS.out _).mono ?_
          rintro e w10 ⟨rfl, rfl⟩
          go_wp2
          go_roundw
          case rel => exact ⟨⟨j + 1, by omega, by go_num, by rw [HP2.out]; push_cast; rfl⟩, (gr2.trans gD).trans g9⟩
          case measure => simp [intOf]; omega
        · obtain rfl : j = A.length := by omega
          go_wp2
          go_ret
          exact ⟨rfl, (G4.trans g46).trans gr2⟩
end Go.Proofs.Ythjfgefkahgenaa
