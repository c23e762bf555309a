/- The law ResyncLoses returns true: its walk. -/
import Derived.Test.YtigaanedkobokaaFr1
namespace Go.Proofs.Ytigaanedkobokaa
open Go Go.RowKit Go.Shelf

def fnd (fs : List Fnd) (p : Nat) : Bool := fs.any fun x => x.1 == p
def hdn (F : Nat) (fs : List Fnd) (p : Nat) : Bool := decide (F ≤ p) || fs.any fun x => decide (x.1 < p) && decide (p < fend x)
theorem fnd_snoc (fs : List Fnd) (x : Fnd) (p : Nat) : fnd (fs ++ [x]) p = (fnd fs p || x.1 == p) := by simp [fnd]
theorem hdn_snoc (F : Nat) (fs : List Fnd) (x : Fnd) (p : Nat) : hdn F (fs ++ [x]) p = (hdn F fs p || (decide (x.1 < p) && decide (p < fend x))) := by simp [hdn, Bool.or_assoc]
theorem walk_pay (l : List UInt8) : ∀ x ∈ (walkL false l 0).1, x.2.2.length ≤ 8192 := by
  intro x hx
  obtain ⟨_, _, h3, h4⟩ := (walk_at false l 0).1 x hx
  have hz := ferr_zero h3
  rw [← h4, fof_len hz.1]; exact hz.2.1
theorem loses_law (l : List UInt8) (p : Nat) (hp : p ∈ wholeN l l.length) : (fnd (walkL false l 0).1 p == hdn (walkL false l 0).2.2 (walkL false l 0).1 p) = false := by
  have hp0 : ferr (l.drop p) = 0 := by simpa [wholeN] using (List.mem_filter.1 hp).2
  have h1 := walk_finds false l 0 p (Nat.zero_le _) hp0
  have h2 := walk_once false l 0 p
  cases hf : fnd (walkL false l 0).1 p with
  | true =>
    obtain ⟨x, hx, e⟩ := List.any_eq_true.1 hf
    have e' : x.1 = p := by simpa using e
    obtain ⟨h3, h4⟩ := h2 x hx e'
    have : hdn (walkL false l 0).2.2 (walkL false l 0).1 p = false := by
      unfold hdn
      rw [decide_eq_false h3, Bool.false_or, List.any_eq_false]
      intro y hy h5
      simp only [Bool.and_eq_true, decide_eq_true_eq] at h5
      exact h4 ⟨y, hy, h5⟩
    rw [this]; rfl
  | false =>
    have : hdn (walkL false l 0).2.2 (walkL false l 0).1 p = true := by
      unfold hdn
      rcases h1 with h1 | ⟨x, hx, e⟩ | ⟨x, hx, e⟩
      · rw [decide_eq_true h1]; rfl
      · exfalso
        have : fnd (walkL false l 0).1 p = true := List.any_eq_true.2 ⟨x, hx, by simpa using e⟩
        rw [this] at hf; cases hf
      · rw [Bool.or_eq_true]; right
        exact List.any_eq_true.2 ⟨x, hx, by simpa using e⟩
    rw [this]; rfl
theorem dec_lt (a b : Nat) : decide ((a : Int) < (b : Int)) = decide (a < b) := by simp
theorem i64_eq (a b : Nat) : ((a : Int) == (b : Int)) = (a == b) := by
  have := i64_ne a b
  have h1 : ((a : Int) == (b : Int)) = !((a : Int) != (b : Int)) := by simp [bne]
  rw [h1, this]; simp

set_option maxRecDepth 100000 in
set_option maxHeartbeats 4000000 in
theorem loses_walk (l : List UInt8) (v : Value) (w : World) (hb : Bs w v l) :
    Calls Try.prog 5 #[v] w fun e w' => e = .returned (.bool true) ∧ Grew w w' := by
  obtain ⟨a, c, rfl, h1, h2, -, -⟩ := hb.open
  unfold maxLen at h2
  by_cases hl : 3000 < l.length
  · clear hb
    go_enter Try.func5, Try.ntmps5
    go_wp2_with fail
    refine (live14_any _).mono ?_
    rintro e w1 ⟨rfl, g1⟩
    go_wp2
    go_ret
    exact ⟨rfl, g1⟩
  have hl' : l.length ≤ 3000 := by omega
  have HB := Lib.hid hb
  clear hl hb
  go_enter Try.func5, Try.ntmps5
  go_wp2_with fail
  refine (live14_any _).mono ?_
  rintro e w1 ⟨rfl, g1⟩
  have B1 := Lib.hid (HB.out.grew g1)
  have LW := Lib.hid (loses_law l)
  have PW := Lib.hid (walk_pay l)
  have EW := Lib.hid (walk_at false l 0)
  have FW := Lib.hid (walk_from false l 0)
  have k2 := all_any l _ _ B1.out (by omega)
  generalize walkL false l 0 = R at k2 LW PW EW FW
  have K2 := Lib.hid k2
  clear k2
  go_wp2_with fail
  refine K2.out.mono ?_
  rintro e w2 ⟨v2, rfl, r2, g2⟩
  obtain ⟨a2, n2, c2, rfl, rfl, t2, s2⟩ := r2.shape
  have R2 := Lib.hid r2.frs
  have G2 := g1.trans g2
  have B2 := Lib.hid (B1.out.grew g2)
  have k3 := whole_any l _ _ B2.out (by omega)
  have ML := Lib.hid (wholeN_le l l.length)
  generalize wholeN l l.length = M at k3 LW ML
  have K3 := Lib.hid k3
  clear k3 r2
  go_wp2_with fail
  refine K3.out.mono ?_
  rintro e w3 ⟨v3, rfl, r3, g3⟩
  have G3 := G2.trans g3
  obtain ⟨a3, n3, c3, rfl, rfl, s3, t3, cell3⟩ := r3.open
  have C3 := Lib.hid cell3
  clear r3 cell3
  go_wp2
  go_loopw [6] (fun i wr => (∃ k : Nat, k ≤ M.length ∧ i = .int .i64 k) ∧ Grew w3 wr) (fun i _ => M.length - (intOf i).toNat)
  case atStart => exact ⟨⟨0, Nat.zero_le _, rfl⟩, Below.refl _ _⟩
  case round =>
    obtain ⟨⟨k, hk, rfl⟩, gr⟩ := hrel
    by_cases hlt : k < M.length
    · obtain ⟨b, o, rfl, hc⟩ := C3.out (by omega)
      have x3 := (below_ext gr) _ _ (hc k hlt)
      have hlaw := LW.out M[k] (List.getElem_mem hlt)
      generalize M[k] = p at x3 hlaw
      have HLAW := Lib.hid hlaw
      have hge : decide ((p : Int) ≥ (R.2.2 : Int)) = decide (R.2.2 ≤ p) := by simp
      clear hc hlaw
      go_wp2
      go_loopw [8, 9, 10] (fun f h i wr2 => (∃ j : Nat, j ≤ R.1.length ∧ i = .int .i64 j ∧ f = .bool (fnd (R.1.take j) p) ∧ h = .bool (hdn R.2.2 (R.1.take j) p)) ∧ Grew w3 wr2) (fun _ _ i _ => R.1.length - (intOf i).toNat)
      case atStart => exact ⟨⟨0, Nat.zero_le _, rfl, rfl, by simp [hdn]⟩, gr⟩
      case round =>
        obtain ⟨⟨j, hj, rfl, rfl, rfl⟩, gr2⟩ := hrel
        by_cases hjt : j < R.1.length
        · obtain ⟨b2, o2, rfl, hc2⟩ := R2.out.cells (by omega)
          obtain ⟨y0, y1, u2, y2, hbs⟩ := hc2 j hjt
          obtain ⟨ua, un, uc, rfl, hun⟩ := bs_shape hbs
          have y0 := (below_ext gr2) _ _ ((below_ext g3) _ _ y0)
          have y2 := (below_ext gr2) _ _ ((below_ext g3) _ _ y2)
          have hpl := PW.out R.1[j] (List.getElem_mem hjt)
          have hun' := hun.out
          rw [← hun'] at hpl
          have hend := ((EW.out.1 R.1[j] (List.getElem_mem hjt)).2.1)
          have hfin := FW.out.2.1
          have h1 := fnd_snoc (R.1.take j) R.1[j] p
          have h2 := hdn_snoc R.2.2 (R.1.take j) R.1[j] p
          rw [← List.take_succ_eq_append_getElem hjt] at h1 h2
          have hfe : fend R.1[j] = R.1[j].1 + (un + 9) := by unfold fend; rw [← hun']
          rw [hfe] at h2 hend
          generalize R.1[j].1 = q at y0 h1 h2 hend
          generalize fnd (R.1.take j) p = f at h1 ⊢
          generalize hdn R.2.2 (R.1.take j) p = h at h2 ⊢
          have H1 := Lib.hid h1
          have H2 := Lib.hid h2
          have ks := fsize_any (un : Int)
          have hsz : fsize (un : Int) = (un : Int) + 9 := by unfold fsize; rw [if_neg (by omega)]
          rw [hsz] at ks
          have KS := Lib.hid ks
          have z1 : (j : Int) < (R.1.length : Int) := by omega
          have q1 := i64_eq q p
          have q2 := dec_lt q p
          have q3 : decide ((p : Int) < (q : Int) + ((un : Int) + 9)) = decide (p < q + (un + 9)) := by simp; omega
          have qb : (q : Int) + ((un : Int) + 9) ≤ 3000 := by omega
          clear hc2 hbs hun' h1 h2 hfe ks hsz hend hfin y1
          go_wp2_with fail
          refine (KS.out _ (by omega) (by omega)).mono ?_
          rintro e w5 ⟨rfl, rfl⟩
          cases f <;> cases h
          all_goals
            cases e1 : (q == p) <;> cases e2 : decide (q < p) <;> cases e3 : decide (p < q + (un + 9)) <;> rw [e1] at q1 <;> rw [e2] at q2 <;> rw [e3] at q3 <;> (
            go_wp2
            go_roundw
            case rel => exact ⟨⟨j + 1, by omega, by go_num, by rw [H1.out, e1]; rfl, by rw [H2.out, e2, e3]; rfl⟩, gr2⟩
            case measure => simp [intOf]; omega)
        · obtain rfl : j = R.1.length := by omega
          rw [List.take_of_length_le (Nat.le_refl _)]
          have hb := HLAW.out
          generalize fnd R.1 p = f at hb ⊢
          generalize hdn R.2.2 R.1 p = h at hb ⊢
          go_wp2
          go_roundw
          case rel => exact ⟨⟨k + 1, by omega, by go_num⟩, gr2⟩
          case measure => simp [intOf]; omega
    · obtain rfl : k = M.length := by omega
      go_wp2
      go_ret
      exact ⟨rfl, G3.trans gr⟩
end Go.Proofs.Ytigaanedkobokaa
