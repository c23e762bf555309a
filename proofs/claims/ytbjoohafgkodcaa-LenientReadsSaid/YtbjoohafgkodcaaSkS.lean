/- rescriptref06.Same: contract. -/
import Derived.Test.YtbjoohafgkodcaaSkG
namespace Go.Proofs.Ytbjoohafgkodcaa
open Go Go.RowKit Go.Shelf
attribute [local go_sem] Oper.semAt_some

/-- alike, place and all -/
def sameF (a b : Fld) : Bool := likeF a b && a.2.2.2.2 == b.2.2.2.2
theorem sameF_iff {a b : Fld} : sameF a b = true ↔ a = b := by
  unfold sameF
  rw [Bool.and_eq_true, likeF_iff]
  obtain ⟨a1, a2, a3, a4, a5⟩ := a
  obtain ⟨b1, b2, b3, b4, b5⟩ := b
  simp only [beq_iff_eq, Prod.mk.injEq]
  constructor
  · rintro ⟨⟨h1, h2, h3, h4⟩, h5⟩; exact ⟨h1, h2, h3, h4, h5⟩
  · rintro ⟨h1, h2, h3, h4, h5⟩; exact ⟨⟨h1, h2, h3, h4⟩, h5⟩
set_option maxRecDepth 100000 in
set_option maxHeartbeats 4000000 in
theorem same06_any (fs gs : List Fld) (va vb : Value) (w : World) (ha : FlRs w va fs) (hb : FlRs w vb gs) :
    Calls Try.prog 18 #[va, vb] w fun e w' => e = .returned (.bool (fs == gs)) ∧ Grew w w' := by
  obtain ⟨ps, rfl, h1⟩ := ha
  obtain ⟨qs, rfl, h2⟩ := hb
  obtain ⟨a1, c1, rfl, k1, k2, -, k3⟩ := h1.1.open
  obtain ⟨a2, c2, rfl, m1, m2, -, m3⟩ := h2.1.open
  unfold maxLen at k2 m2
  have H1 := Lib.hid h1
  have H2 := Lib.hid h2
  have K3 := Lib.hid k3
  have M3 := Lib.hid m3
  clear h1 h2 k3 m3
  by_cases hlen : ps.length = qs.length
  · have hl1 : ((ps.length : Int) != (qs.length : Int)) = false := by simp [hlen]
    have HL := Lib.hid hlen
    have hle : qs.length ≤ ps.length ∧ ps.length ≤ qs.length := by omega
    clear hlen
    go_enter Try.func18, Try.ntmps18
    go_wp2
    go_loopw [5] (fun i wr => (∃ k : Nat, k ≤ ps.length ∧ i = .int .i64 k ∧ RowKit.Hid ((ps.map (·.1)).take k = (qs.map (·.1)).take k)) ∧ Grew w wr) (fun i _ => ps.length - (intOf i).toNat)
    case atStart => exact ⟨⟨0, Nat.zero_le _, rfl, rfl⟩, Below.refl _ _⟩
    case round =>
      obtain ⟨⟨k, hk, rfl, htk⟩, hG⟩ := hrel
      by_cases hlt : k < ps.length
      · obtain ⟨b1, o1, rfl, -⟩ := K3.out (by omega)
        obtain ⟨b2, o2, rfl, -⟩ := M3.out (by omega)
        obtain ⟨x0, x1, x2, x3, x4, x5⟩ := fl_cells (H1.out.grew hG) k hlt
        obtain ⟨y0, y1, y2, y3, y4, y5⟩ := fl_cells (H2.out.grew hG) k (by omega)
        obtain ⟨⟨⟨r1, r2, r3, r4, r5⟩, rv⟩, hr⟩ : ∃ r, r = ps[k] := ⟨_, rfl⟩
        obtain ⟨⟨⟨s1, s2, s3, s4, s5⟩, sv⟩, hs⟩ : ∃ r, r = qs[k]'(by omega) := ⟨_, rfl⟩
        rw [← hr] at x0 x1 x2 x3 x4 x5
        rw [← hs] at y0 y1 y2 y3 y4 y5
        simp only at x0 x1 x2 x3 x4 x5 y0 y1 y2 y3 y4 y5
        obtain ⟨ra1, ra2, ra3, rfl, -⟩ := bs_shape x5
        obtain ⟨sa1, sa2, sa3, rfl, -⟩ := bs_shape y5
        have e1 : (ps.map (·.1))[k]'(by simpa using hlt) = (r1, r2, r3, r4, r5) := by simp [← hr]
        have e2 : (qs.map (·.1))[k]'(by simp; omega) = (s1, s2, s3, s4, s5) := by simp [← hs]
        have E1 := Lib.hid e1
        have E2 := Lib.hid e2
        have CX := Lib.hid (fun W (hW : Grew wr W) => And.intro (below_ext hW _ _ x0) (And.intro (below_ext hW _ _ x1) (And.intro (below_ext hW _ _ x2) (And.intro (below_ext hW _ _ x3) (below_ext hW _ _ x4)))))
        have CY := Lib.hid (fun W (hW : Grew wr W) => And.intro (below_ext hW _ _ y0) (And.intro (below_ext hW _ _ y1) (And.intro (below_ext hW _ _ y2) (And.intro (below_ext hW _ _ y3) (below_ext hW _ _ y4)))))
        have KL := Lib.hid (fun W (hW : GC wr W) => like_any (r1, r2, r3, r4, r5) (s1, s2, s3, s4, s5) _ _ W (x5.grew hW.out) (y5.grew hW.out))
        have z1 : (k : Int) < (ps.length : Int) := by omega
        have z2 : (k : Int) < (qs.length : Int) := by omega
        have z0 : (0 : Int) ≤ (k : Int) := by omega
        clear e1 e2 hr hs x5 y5 x0 x1 x2 x3 x4 y0 y1 y2 y3 y4
        cases hlk : likeF (r1, r2, r3, r4, r5) (s1, s2, s3, s4, s5) with
        | true =>
          by_cases h5 : r5 = s5
          · subst h5
            rw [hlk] at KL
            have HLK := Lib.hid hlk
            clear hlk
            go_wp2
            refine wp_region_grew wr (Below.refl _ _) (by kernel_rfl) (by kernel_rfl) ?_
            repeat (
              first
                | go_big_quiet_skip
                | (go_big_quiet_want; go_big_quiet_op; go_big_quiet_on)
                | (refine BigFrame.wpQuiet_want (by kernel_rfl) (fun K hK => ?_)
                   apply Exists.intro
                   apply And.intro
                   · intro W hW
                     obtain ⟨j0, j1, j2, j3, j4⟩ := CX.out W hW.out
                     obtain ⟨i0, i1, i2, i3, i4⟩ := CY.out W hW.out
                     go_simp
                     first
                       | done
                       | rfl
                       | with_reducible exact q_calls hW (KL.out W hW) (fun _ _ h => h)
                   refine hK _ ?_
                   clear hK K)
              try simp only [Act.put, List.setIfInBounds_toArray, List.set_cons_zero, List.set_cons_succ])
            refine wpQuiet_nil ?_
            intro w6 g6
            have G6 := Lib.hid (hG.trans g6.out)
            clear g6
            go_wp2
            go_roundw
            case rel =>
              refine ⟨⟨k + 1, by omega, by go_num, ?_⟩, G6.out⟩
              refine take_succ_eq (ps.map (·.1)) (qs.map (·.1)) k (by rw [List.length_map]; exact hlt) (by rw [List.length_map]; omega) htk.out ?_
              rw [E1.out, E2.out]
              exact sameF_iff.1 (by unfold sameF; rw [HLK.out]; simp)
            case measure => simp [intOf]; omega
          · have q5 : (r5 != s5) = true := by simpa using h5
            rw [hlk] at KL
            have H5 := Lib.hid h5
            clear hlk h5
            go_wp2
            refine wp_region_grew wr (Below.refl _ _) (by kernel_rfl) (by kernel_rfl) ?_
            repeat (
              first
                | go_big_quiet_skip
                | (go_big_quiet_want; go_big_quiet_op; go_big_quiet_on)
                | (refine BigFrame.wpQuiet_want (by kernel_rfl) (fun K hK => ?_)
                   apply Exists.intro
                   apply And.intro
                   · intro W hW
                     obtain ⟨j0, j1, j2, j3, j4⟩ := CX.out W hW.out
                     obtain ⟨i0, i1, i2, i3, i4⟩ := CY.out W hW.out
                     go_simp
                     first
                       | done
                       | rfl
                       | with_reducible exact q_calls hW (KL.out W hW) (fun _ _ h => h)
                   refine hK _ ?_
                   clear hK K)
              try simp only [Act.put, List.setIfInBounds_toArray, List.set_cons_zero, List.set_cons_succ])
            refine wpQuiet_nil ?_
            intro w6 g6
            have G6 := Lib.hid (hG.trans g6.out)
            clear g6
            go_wp2
            go_ret
            refine ⟨ret_bool ?_, G6.out⟩
            refine (ne_getB (ps.map (·.1)) (qs.map (·.1)) k (by rw [List.length_map]; exact hlt) (by rw [List.length_map]; omega) ?_).symm
            rw [E1.out, E2.out]
            intro h; exact H5.out (by cases h; rfl)
        | false =>
          rw [hlk] at KL
          have HLK := Lib.hid hlk
          clear hlk
          go_wp2
          refine wp_region_grew wr (Below.refl _ _) (by kernel_rfl) (by kernel_rfl) ?_
          repeat (
            first
              | go_big_quiet_skip
              | (go_big_quiet_want; go_big_quiet_op; go_big_quiet_on)
              | (refine BigFrame.wpQuiet_want (by kernel_rfl) (fun K hK => ?_)
                 apply Exists.intro
                 apply And.intro
                 · intro W hW
                   obtain ⟨j0, j1, j2, j3, j4⟩ := CX.out W hW.out
                   obtain ⟨i0, i1, i2, i3, i4⟩ := CY.out W hW.out
                   go_simp
                   first
                     | done
                     | rfl
                     | with_reducible exact q_calls hW (KL.out W hW) (fun _ _ h => h)
                 refine hK _ ?_
                 clear hK K)
            try simp only [Act.put, List.setIfInBounds_toArray, List.set_cons_zero, List.set_cons_succ])
          refine wpQuiet_nil ?_
          intro w6 g6
          have G6 := Lib.hid (hG.trans g6.out)
          clear g6
          go_wp2
          go_ret
          refine ⟨ret_bool ?_, G6.out⟩
          refine (ne_getB (ps.map (·.1)) (qs.map (·.1)) k (by rw [List.length_map]; exact hlt) (by rw [List.length_map]; omega) ?_).symm
          rw [E1.out, E2.out]
          intro h
          have := HLK.out
          rw [h] at this
          simp [likeF] at this
      · obtain rfl : k = ps.length := by omega
        have e : ps.map (·.1) = qs.map (·.1) := by
          have h := htk.out
          rwa [List.take_of_length_le (by simp), List.take_of_length_le (by simp; omega)] at h
        have E := Lib.hid e
        clear e
        go_wp2
        go_ret
        exact ⟨ret_bool (by rw [E.out]; simp), hG⟩
  · have hl1 : ((ps.length : Int) != (qs.length : Int)) = true := by simp; omega
    have HL := Lib.hid hlen
    clear hlen
    go_enter Try.func18, Try.ntmps18
    go_wp2
    go_ret
    exact ⟨ret_bool (ne_lenB (ps.map (·.1)) (qs.map (·.1)) (by rw [List.length_map, List.length_map]; exact HL.out)).symm, Below.refl _ _⟩
end Go.Proofs.Ytbjoohafgkodcaa
