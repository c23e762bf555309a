/- rescriptref14.Same: rows of frames that were found, compared. -/
import Derived.Test.YthjfgefkahgenaaFrG
namespace Go.Proofs.Ythjfgefkahgenaa
open Go Go.RowKit Go.Shelf

/-- a cell of a row whose elements have k cells each -/
theorem flat_at {α : Type} {f : α → List Value} {k : Nat} (hf : ∀ x, (f x).length = k) : ∀ (l : List α) (j : Nat) (hj : j < l.length) (i : Nat), i < k → (l.flatMap f)[j * k + i]? = (f l[j])[i]?
  | x :: l, 0, _, i, hi => by
    rw [Nat.zero_mul, Nat.zero_add, List.flatMap_cons, List.getElem?_append_left (by rw [hf]; exact hi)]; rfl
  | x :: l, j + 1, hj, i, hi => by
    rw [List.flatMap_cons, List.getElem?_append_right (by rw [hf, Nat.add_mul]; omega), hf, show (j + 1) * k + i - k = j * k + i by rw [Nat.add_mul]; omega, flat_at hf l j (by simpa using hj) i hi]; rfl
  | [], _, hj, _, _ => by simp at hj
/-- a row that is read -/
def FR (W : World) (v : Value) (ps : List FV) : Prop := Sl W v ps.length 3 (ps.flatMap fdv) ∧ ∀ p ∈ ps, Bs W p.2 p.1.2.2
theorem FR.grew {W W' : World} {v : Value} {ps : List FV} (h : FR W v ps) (g : Grew W W') : FR W' v ps := ⟨h.1.grew g, fun p hp => (h.2 p hp).grew g⟩
theorem FoundsV.fr {W : World} {base : Nat} {v : Value} {ps : List FV} (h : FoundsV W base v ps) : FR W v ps := ⟨Sl.of_own h.1, fun p hp => (h.2 p hp).1⟩
def FRs (W : World) (v : Value) (fs : List Fnd) : Prop := ∃ ps : List FV, ps.map (·.1) = fs ∧ FR W v ps
theorem FOs.frs {W : World} {base : Nat} {v : Value} {fs : List Fnd} (h : FOs W base v fs) : FRs W v fs := by obtain ⟨ps, e, h⟩ := h; exact ⟨ps, e, h.fr⟩
theorem FRs.grew {W W' : World} {v : Value} {fs : List Fnd} (h : FRs W v fs) (g : Grew W W') : FRs W' v fs := by obtain ⟨ps, e, h⟩ := h; exact ⟨ps, e, h.grew g⟩
/-- v[:m] -/
theorem FRs.take {W : World} {a : Option Addr} {n c : Nat} {fs : List Fnd} (h : FRs W (.slice a n c) fs) (m : Nat) (hm : m ≤ n) : FRs W (.slice a m c) (fs.take m) := by
  obtain ⟨ps, rfl, h1, h2⟩ := h
  have hn : n = ps.length := by obtain ⟨_, _, _, e, _⟩ := h1; cases e; rfl
  subst hn
  refine ⟨ps.take m, by rw [List.map_take], ?_, fun p hp => h2 p (List.mem_of_mem_take hp)⟩
  have := Sl.take h1 m hm
  rw [List.length_take, Nat.min_eq_left hm]
  have e : (ps.flatMap fdv).take (m * 3) = (ps.take m).flatMap fdv := by
    have hl : ((ps.take m).flatMap fdv).length = m * 3 := by
      have : ∀ q : List FV, (q.flatMap fdv).length = q.length * 3 := by
        intro q; induction q with
        | nil => rfl
        | cons x q ih => rw [List.flatMap_cons, List.length_append, ih, List.length_cons]; simp [fdv]; omega
      rw [this, List.length_take, Nat.min_eq_left hm]
    have : ps.flatMap fdv = (ps.take m).flatMap fdv ++ (ps.drop m).flatMap fdv := by rw [← List.flatMap_append, List.take_append_drop]
    rw [this, ← hl, List.take_left]
  rw [e] at this; exact this
theorem ne_getB {α : Type} [BEq α] [LawfulBEq α] (a b : List α) (k : Nat) (ha : k < a.length) (hb : k < b.length) (h : a[k] ≠ b[k]) : (a == b) = false := by
  rw [beq_eq_false_iff_ne]; intro e; subst e; exact h rfl
theorem ne_lenB {α : Type} [BEq α] [LawfulBEq α] (a b : List α) (h : a.length ≠ b.length) : (a == b) = false := by
  rw [beq_eq_false_iff_ne]; intro e; subst e; exact h rfl
theorem i64_ne (a b : Nat) : ((a : Int) != (b : Int)) = !(a == b) := by
  by_cases h : a = b
  · subst h; simp
  · have h2 : ¬ ((a : Int) = (b : Int)) := by omega
    rw [bne_iff_ne.2 h2, beq_eq_false_iff_ne.2 h]; rfl
/-- the cells of element j, wherever the row lies -/
theorem fr_cells {W : World} {b off : Nat} {n c : Nat} {ps : List FV} (h : FR W (.slice (some ⟨b, off, none⟩) n c) ps) (j : Nat) (hj : j < ps.length) :
    W.cell? ⟨b, off + j * 3, none⟩ = some (.int .i64 (ps[j].1.1 : Nat)) ∧ W.cell? ⟨b, off + j * 3 + 1, none⟩ = some (.int .u8 (ps[j].1.2.1.toNat : Int)) ∧ W.cell? ⟨b, off + j * 3 + 2, none⟩ = some ps[j].2 ∧ Bs W ps[j].2 ps[j].1.2.2 := by
  obtain ⟨a, cap, e, -, -, -, h4⟩ := h.1.open
  cases e
  obtain ⟨b', o', e, hc⟩ := h4 (by omega)
  cases e
  have g := fun i hi => flat_at (f := fdv) (k := 3) (fun _ => rfl) ps j hj i hi
  have g0 := hc (j * 3) _ (g 0 (by omega))
  have g1 := hc (j * 3 + 1) _ (g 1 (by omega))
  have g2 := hc (j * 3 + 2) _ (g 2 (by omega))
  simp only [← Nat.add_assoc] at g0 g1 g2
  exact ⟨g0, g1, g2, h.2 _ (List.getElem_mem hj)⟩

set_option maxRecDepth 100000 in
set_option maxHeartbeats 4000000 in
theorem r14same_any (fs gs : List Fnd) (va vb : Value) (w : World) (ha : FRs w va fs) (hb : FRs w vb gs) :
    Calls Try.prog 27 #[va, vb] w fun e w' => e = .returned (.bool (fs == gs)) ∧ Grew w w' := by
  obtain ⟨ps, rfl, h1⟩ := ha
  obtain ⟨qs, rfl, h2⟩ := hb
  obtain ⟨a1, c1, rfl, k1, k2, -, k3⟩ := h1.1.open
  obtain ⟨a2, c2, rfl, m1, m2, -, m3⟩ := h2.1.open
  unfold maxLen at k2 m2
  have H1 := Lib.hid h1
  have H2 := Lib.hid h2
  have K3 := Lib.hid k3
  have M3 := Lib.hid m3
  clear h1 h2 k3 m3
  by_cases hlen : ps.length = qs.length
  · have hl1 : ((ps.length : Int) != (qs.length : Int)) = false := by simp [hlen]
    have HL := Lib.hid hlen
    have hle : qs.length ≤ ps.length ∧ ps.length ≤ qs.length := by omega
    clear hlen
    go_enter Try.func27, Try.ntmps27
    go_wp2
    go_loopw [5] (fun i wr => (∃ k : Nat, k ≤ ps.length ∧ i = .int .i64 k ∧ RowKit.Hid ((ps.map (·.1)).take k = (qs.map (·.1)).take k)) ∧ Grew w wr) (fun i _ => ps.length - (intOf i).toNat)
    case atStart => exact ⟨⟨0, Nat.zero_le _, rfl, rfl⟩, Below.refl _ _⟩
    case round =>
      obtain ⟨⟨k, hk, rfl, htk⟩, hG⟩ := hrel
      by_cases hlt : k < ps.length
      · obtain ⟨b1, o1, rfl, -⟩ := K3.out (by omega)
        obtain ⟨b2, o2, rfl, -⟩ := M3.out (by omega)
        obtain ⟨x0, x1, x2, x3⟩ := fr_cells (H1.out.grew hG) k hlt
        obtain ⟨y0, y1, y2, y3⟩ := fr_cells (H2.out.grew hG) k (by omega)
        obtain ⟨⟨⟨ra, rf⟩, rv⟩, hr⟩ : ∃ r, r = ps[k] := ⟨_, rfl⟩
        obtain ⟨⟨⟨sa, sf⟩, sv⟩, hs⟩ : ∃ r, r = qs[k]'(by omega) := ⟨_, rfl⟩
        rw [← hr] at x0 x1 x2 x3
        rw [← hs] at y0 y1 y2 y3
        simp only at x0 x1 x2 x3 y0 y1 y2 y3
        obtain ⟨ra1, ra2, ra3, rfl, -⟩ := bs_shape x3
        obtain ⟨sa1, sa2, sa3, rfl, -⟩ := bs_shape y3
        have hn := i64_ne ra sa
        have e1 : (ps.map (·.1))[k]'(by simpa using hlt) = (ra, rf) := by simp [← hr]
        have e2 : (qs.map (·.1))[k]'(by simp; omega) = (sa, sf) := by simp [← hs]
        have E1 := Lib.hid e1
        have E2 := Lib.hid e2
        have X3 := Lib.hid x3
        have Y3 := Lib.hid y3
        clear e1 e2 hr hs x3 y3
        by_cases hat : ra = sa
        · have hn0 : ((ra : Int) != (sa : Int)) = false := by rw [hn]; simp [hat]
          have HAT := Lib.hid hat
          have z1 : (k : Int) < (ps.length : Int) := by omega
          have z2 : (k : Int) < (qs.length : Int) := by omega
          have z0 : (0 : Int) ≤ (k : Int) := by omega
          have gD : Grew wr wr.drew := Drew.grew ⟨1, rfl⟩
          have kc := r13same_any rf sf _ _ wr.drew (X3.out.grew gD) (Y3.out.grew gD)
          have KC := Lib.hid kc
          clear hn hat kc
          go_wp2
          go_region_held3 (fun W => W.cell? ⟨b1, o1 + k * 3, none⟩ = some (.int .i64 (ra : Nat)) ∧ W.cell? ⟨b1, o1 + k * 3 + 1, none⟩ = some (.int .u8 (rf.1.toNat : Int)) ∧ W.cell? ⟨b1, o1 + k * 3 + 2, none⟩ = some (.slice ra1 ra2 ra3) ∧ W.cell? ⟨b2, o2 + k * 3, none⟩ = some (.int .i64 (sa : Nat)) ∧ W.cell? ⟨b2, o2 + k * 3 + 1, none⟩ = some (.int .u8 (sf.1.toNat : Int)) ∧ W.cell? ⟨b2, o2 + k * 3 + 2, none⟩ = some (.slice sa1 sa2 sa3))
            (first | go_keep | exact ⟨j0, j1, j2, j3, j4, j5⟩) ((go_at_call 49; refine KC.out.mono ?_; rintro e6 W6 ⟨rfl, g6⟩; have j0 := (below_ext g6) _ _ x0; have j1 := (below_ext g6) _ _ x1; have j2 := (below_ext g6) _ _ x2; have j3 := (below_ext g6) _ _ y0; have j4 := (below_ext g6) _ _ y1; have j5 := (below_ext g6) _ _ y2))
          have G6 := (hG.trans gD).trans g6
          cases hrf : (rf == sf) with
          | true =>
            have hrf' : rf = sf := by simpa using hrf
            have e : (ps.map (·.1))[k]'(by rw [List.length_map]; exact hlt) = (qs.map (·.1))[k]'(by rw [List.length_map]; omega) := by rw [E1.out, E2.out, HAT.out, hrf']
            have hts := take_succ_eq (ps.map (·.1)) (qs.map (·.1)) k (by rw [List.length_map]; exact hlt) (by rw [List.length_map]; omega) htk.out e
            have HTS := Lib.hid hts
            clear hrf hrf' e hts
            go_wp2
            go_roundw
            case rel => exact ⟨⟨k + 1, by omega, by go_num, HTS.out⟩, G6⟩
            case measure => simp [intOf]; omega
          | false =>
            have hrf' : rf ≠ sf := by simpa using hrf
            have HRF := Lib.hid hrf'
            clear hrf hrf'
            go_wp2
            go_ret
            refine ⟨ret_bool ?_, G6⟩
            refine (ne_getB (ps.map (·.1)) (qs.map (·.1)) k (by rw [List.length_map]; exact hlt) (by rw [List.length_map]; omega) ?_).symm
            rw [E1.out, E2.out]
            intro h; exact HRF.out (congrArg Prod.snd h)
        · have hn0 : ((ra : Int) != (sa : Int)) = true := by rw [hn]; simp [hat]
          have HAT := Lib.hid hat
          clear hn hat
          go_wp2
          go_quiet (fail)
          go_wp2
          go_ret
          refine ⟨ret_bool ?_, hG.trans (Drew.grew ⟨_, rfl⟩)⟩
          refine (ne_getB (ps.map (·.1)) (qs.map (·.1)) k (by rw [List.length_map]; exact hlt) (by rw [List.length_map]; omega) ?_).symm
          rw [E1.out, E2.out]
          intro h; exact HAT.out (congrArg Prod.fst h)
      · obtain rfl : k = ps.length := by omega
        have e : ps.map (·.1) = qs.map (·.1) := by
          have h := htk.out
          rwa [List.take_of_length_le (by simp), List.take_of_length_le (by simp; omega)] at h
        have E := Lib.hid e
        clear e
        go_wp2
        go_ret
        exact ⟨ret_bool (by rw [E.out]; simp), hG⟩
  · have hl1 : ((ps.length : Int) != (qs.length : Int)) = true := by simp; omega
    have HL := Lib.hid hlen
    clear hlen
    go_enter Try.func27, Try.ntmps27
    go_wp2
    go_ret
    exact ⟨ret_bool (ne_lenB (ps.map (·.1)) (qs.map (·.1)) (by rw [List.length_map, List.length_map]; exact HL.out)).symm, Below.refl _ _⟩
end Go.Proofs.Ythjfgefkahgenaa
