/- The law InletStays returns true: its walk. -/
import Derived.Test.YtakogncnkbgkfaaInz
namespace Go.Proofs.Ytakogncnkbgkfaa
open Go Go.RowKit Go.Shelf
attribute [local go_sem] Oper.semAt_some

/-- what holds behind a try: an error, and one stays; or one goes on by 'size' (0: it is not said) -/
def Stays (L at_ e nx size : Nat) : Prop := at_ ≤ nx ∧ nx ≤ L ∧ (e ≠ 0 → nx = at_) ∧ (e = 0 → 0 < size → nx = at_ + size)
theorem stays_var (l : List UInt8) (at_ : Nat) (h : at_ ≤ l.length) : Stays l.length at_ (vget (l.drop at_)).2.2 (at_ + (vget (l.drop at_)).2.1) 0 := by
  obtain ⟨-, h2, -, -, h5⟩ := vget_bd (l.drop at_)
  rw [List.length_drop] at h2
  exact ⟨by omega, by omega, fun e => by rw [(h5 e).2]; rfl, fun _ h => absurd h (by omega)⟩
theorem stays_tag (l : List UInt8) (at_ : Nat) (h : at_ ≤ l.length) : Stays l.length at_ (tagR l at_).2.2.1 (tagR l at_).2.2.2 0 := by
  obtain ⟨-, h2, -, -, h5⟩ := vget_bd (l.drop at_)
  rw [List.length_drop] at h2
  unfold tagR
  split
  · exact ⟨Nat.le_refl _, h, fun _ => rfl, fun _ h => absurd h (by omega)⟩
  split
  · exact ⟨Nat.le_refl _, h, fun _ => rfl, fun _ h => absurd h (by omega)⟩
  · exact ⟨by simp, by simp; omega, fun e => absurd rfl e, fun _ h => absurd h (by omega)⟩
theorem stays_fix (l : List UInt8) (at_ k : Nat) (h : at_ ≤ l.length) : Stays l.length at_ (fixR l at_ k).2.1 (fixR l at_ k).2.2 k := by
  unfold fixR
  split
  · exact ⟨Nat.le_refl _, h, fun _ => rfl, fun h => by simp at h⟩
  · rename_i h1
    rw [List.length_drop] at h1
    exact ⟨by simp, by simp; omega, fun e => absurd rfl e, fun _ _ => rfl⟩
theorem cut_facts (l : List UInt8) (at_ a n : Nat) (h : at_ ≤ l.length) : Stays l.length at_ (cutR l at_ a n).2.1 (cutR l at_ a n).2.2 0 ∧ ((cutR l at_ a n).2.1 ≠ 0 → (cutR l at_ a n).1 = []) ∧
    ((cutR l at_ a n).2.1 = 0 → (cutR l at_ a n).1.length = n ∧ (cutR l at_ a n).2.2 = at_ + (a + n) ∧ (cutR l at_ a n).1 = (l.drop (at_ + a)).take n) := by
  unfold cutR
  split
  · exact ⟨⟨Nat.le_refl _, h, fun _ => rfl, fun _ h => absurd h (by omega)⟩, fun _ => rfl, fun h => by simp at h⟩
  · rename_i h1
    refine ⟨⟨by simp, by simp; omega, fun e => absurd rfl e, fun _ h => absurd h (by omega)⟩, fun e => absurd rfl e, fun _ => ⟨?_, rfl, rfl⟩⟩
    rw [List.length_take, List.length_drop]; omega
theorem stays_bytes (l : List UInt8) (at_ : Nat) (n : Int) (h : at_ ≤ l.length) : Stays l.length at_ (bytesR l at_ n).2.1 (bytesR l at_ n).2.2 0 ∧
    ((bytesR l at_ n).2.1 = 0 → at_ + (bytesR l at_ n).1.length ≤ (bytesR l at_ n).2.2 ∧ (l.drop ((bytesR l at_ n).2.2 - (bytesR l at_ n).1.length)).take (bytesR l at_ n).1.length = (bytesR l at_ n).1) := by
  unfold bytesR
  split
  · rename_i h1
    exact ⟨⟨Nat.le_refl _, h, fun _ => rfl, fun _ h => absurd h (by omega)⟩, fun h => absurd h h1⟩
  split
  · exact ⟨⟨Nat.le_refl _, h, fun _ => rfl, fun _ h => absurd h (by omega)⟩, fun h => by simp at h⟩
  · obtain ⟨h1, -, h3⟩ := cut_facts l at_ (vget (l.drop at_)).2.1 (vget (l.drop at_)).1 h
    refine ⟨h1, fun e => ?_⟩
    obtain ⟨e1, e2, e3⟩ := h3 e
    rw [e1, e2]
    refine ⟨by omega, ?_⟩
    rw [show at_ + ((vget (l.drop at_)).2.1 + (vget (l.drop at_)).1) - (vget (l.drop at_)).1 = at_ + (vget (l.drop at_)).2.1 by omega, e3]
theorem stays_take (l : List UInt8) (at_ : Nat) (n : Int) (h : at_ ≤ l.length) : Stays l.length at_ (takeR l at_ n).2.1 (takeR l at_ n).2.2 (takeR l at_ n).1.length := by
  unfold takeR
  split
  · exact ⟨Nat.le_refl _, h, fun _ => rfl, fun h => by simp at h⟩
  · obtain ⟨⟨h1, h2, h3, -⟩, -, h5⟩ := cut_facts l at_ 0 n.toNat h
    exact ⟨h1, h2, h3, fun e _ => by obtain ⟨e1, e2, -⟩ := h5 e; rw [e1, e2]; omega⟩

/-- the tests behind a try, in the walk's spelling -/
structure Tests (L at_ e nx size : Nat) : Prop where
  t1 : decide (nx < at_) = false
  t2 : decide (L < nx) = false
  t3 : ((L - nx : Nat) : Int) = (L : Int) - (nx : Int)
  t4 : (0 : Int) ≤ (L : Int) - (nx : Int)
theorem tests_of {L at_ e nx size : Nat} (h : Stays L at_ e nx size) : Tests L at_ e nx size := ⟨by simpa using h.1, by simpa using h.2.1, by have := h.2.1; omega, by have := h.2.1; omega⟩

set_option maxRecDepth 100000 in
set_option maxHeartbeats 8000000 in
theorem inlet_stays (l : List UInt8) (A : List Ask4) (va vb : Value) (w : World) (hb : Bs w va l) (ha : Sl w vb A.length 2 (asks4V A)) (hA : ∀ a ∈ A, Ask4.ok a) :
    Calls Try.prog 6 #[va, vb] w fun e w' => e = .returned (.bool true) ∧ Grew w w' := by
  obtain ⟨a1, c1, rfl, l1, l2, -⟩ := hb.open
  obtain ⟨a2, c2, rfl, m1, m2, -, hcell⟩ := ha.open
  unfold maxLen at l2 m2
  clear ha
  by_cases hl : 1000 < l.length
  · clear hb hcell
    go_enter Try.func6, Try.ntmps6
    go_wp2_with fail
    refine (live4_any _).mono ?_
    rintro e w1 ⟨rfl, g1⟩
    go_wp2
    go_ret
    exact ⟨rfl, g1⟩
  have hl' : l.length ≤ 1000 := by omega
  by_cases hn : 60 < A.length
  · clear hb hcell
    go_enter Try.func6, Try.ntmps6
    go_wp2_with fail
    refine (live4_any _).mono ?_
    rintro e w1 ⟨rfl, g1⟩
    go_wp2
    go_ret
    exact ⟨rfl, g1⟩
  have hn' : A.length ≤ 60 := by omega
  clear hl hn
  go_enter Try.func6, Try.ntmps6
  go_wp2_with fail
  refine (live4_any _).mono ?_
  rintro e w1 ⟨rfl, g1⟩
  have hb1 := hb.grew g1
  go_wp2_with fail
  refine (inew_any l _ _ hb1 (by omega)).mono ?_
  rintro e w2 ⟨p, rfl, hp, hi, g2⟩
  have g12 := Grew.trans g1 g2
  have hp0 : w.heap.size ≤ p := Nat.le_trans g1.size hp
  have HC := Lib.hid hcell
  have HAk := Lib.hid hA
  have HB := Lib.hid hb
  clear hb hb1 g1 g2 hcell hA hp
  go_wp2_with fail
  go_loopw [6] (fun i wr => ∃ k at_ : Nat, k ≤ A.length ∧ i = .int .i64 k ∧ InI wr p l at_ ∧ Grew w wr) (fun i _ => A.length - (intOf i).toNat)
  case atStart => exact ⟨0, 0, by omega, rfl, hi, g12⟩
  case round =>
    obtain ⟨k, at_, hk, rfl, hI, hg⟩ := hrel
    clear hi g12
    by_cases hlt : k < A.length
    · obtain ⟨b, off, rfl, hcl⟩ := HC.out (by omega)
      obtain ⟨⟨kd, n⟩, hak⟩ : ∃ a, A[k] = a := ⟨_, rfl⟩
      have hok := HAk.out A[k] (List.getElem_mem hlt)
      rw [hak] at hok
      obtain ⟨o1, o2, o3⟩ := hok
      have hga : ∀ i, i < 2 → (asks4V A)[k * 2 + i]? = (ask4V (kd, n))[i]? := fun i hi => by rw [← hak]; exact flat_get4 (k := 2) (fun _ => rfl) A k hlt i hi
      have d0 := hcl _ _ (hga 0 (by omega))
      have d1 := hcl _ _ (hga 1 (by omega))
      have hfb := Blk.new wr 59 #[.int .i64 0, .int .i64 0]
      have gw := grew_alloc wr (.cells #[.int .i64 0, .int .i64 0] 59)
      have e0 := (below_ext (Grew.trans hg gw)) _ _ d0
      have e1 := (below_ext (Grew.trans hg gw)) _ _ d1
      simp only [Nat.add_zero, ← Nat.add_assoc] at d0 d1 e0 e1
      have hat : at_ ≤ l.length := hI.choose_spec.2.2
      have hpl := hI.lt
      have hI1 := hI.grew gw
      have hgw := Grew.trans hg gw
      clear hga hcl hak
      go_wp2_with fail
      refine (at_any l p at_ _ hI).mono ?_
      rintro e w3 ⟨rfl, rfl⟩
      clear hI
      by_cases h0 : kd = 0
      · subst h0
        have ST := stays_var l at_ hat
        have K := fun w h => ivarint_any l p at_ w h
        obtain ⟨⟨num, ks, e⟩, hR⟩ : ∃ R, vget (l.drop at_) = R := ⟨_, rfl⟩
        simp only [hR] at K ST
        obtain ⟨nx, hnx⟩ : ∃ nx, at_ + ks = nx := ⟨_, rfl⟩
        simp only [hnx] at K ST
        have KH := Lib.hid K
        clear hR hnx K
        go_wp2_with fail
        refine (KH.out _ hI1).mono ?_
        rintro e3 w3 ⟨rfl, hi, hf⟩
        have hfb3 := hfb.fr hf (show wr.heap.size ≠ p by omega)
        obtain ⟨c0, c1, f0, f1⟩ := cells_of hfb3
        have hg3 : Grew w w3 := hf.grew hgw (fun i e => by omega)
        have HI := Lib.hid hi
        have hB4 := (hfb3.set 0 (.int .i64 e)).set 1 (.int .i64 (fltAt e at_))
        have hI4 : InI ((w3.setCell ⟨wr.heap.size, 0, none⟩ (.int .i64 e)).setCell ⟨wr.heap.size, 1, none⟩ (.int .i64 (fltAt e at_))) p l nx := hi.cell hfb3 (noByte_fault _ _) (by omega) (fr_set2 _ _ _ _)
        have hg4 : Grew w ((w3.setCell ⟨wr.heap.size, 0, none⟩ (.int .i64 e)).setCell ⟨wr.heap.size, 1, none⟩ (.int .i64 (fltAt e at_))) := grew_set (grew_set hg3 hg.size _) hg.size _
        clear hi
        go_wp2_with fail
        refine (at_any l p nx _ hI4).mono ?_
        rintro e4 w4 ⟨rfl, rfl⟩
        obtain ⟨W, hW⟩ : ∃ W, ((w3.setCell ⟨wr.heap.size, 0, none⟩ (.int .i64 e)).setCell ⟨wr.heap.size, 1, none⟩ (.int .i64 (fltAt e at_))) = W := ⟨_, rfl⟩
        rw [hW] at hI4 hg4 hB4 ⊢
        clear hW hfb3 c0 c1 f0 f1 hg3 hfb hI1 hgw e0 e1 HI
        have TS := tests_of ST
        obtain ⟨t1, t2, t3, t4⟩ := TS
        obtain ⟨s1, s2, s3, s4⟩ := ST
        obtain ⟨c0, c1, f0, f1⟩ := cells_of hB4
        go_wp2_with fail
        refine (left_any l p nx _ hI4).mono ?_
        rintro e5 w5 ⟨rfl, nd, rfl⟩
        by_cases he : e = 0
        · subst he
          have s4' := s4 rfl
          clear s3 s4
          clear s4'
          go_wp2
          go_roundw
          case rel => exact ⟨k + 1, nx, by omega, by go_num, hI4.grew (Drew.grew ⟨_, rfl⟩), Grew.trans hg4 (Drew.grew ⟨_, rfl⟩)⟩
          case measure => simp [intOf]; omega
        · have hx := s3 he
          have ef : fltAt e at_ = at_ := by rw [fltAt, if_neg he]
          rw [ef] at c1
          have h1 : ((e : Int) != 0) = true := by simp; omega
          have h2 : ((e : Int) == 0) = false := by simp; omega
          subst hx
          clear s3 s4 ef
          go_wp2
          go_roundw
          case rel => exact ⟨k + 1, nx, by omega, by go_num, hI4.grew (Drew.grew ⟨_, rfl⟩), Grew.trans hg4 (Drew.grew ⟨_, rfl⟩)⟩
          case measure => simp [intOf]; omega
      by_cases h1 : kd = 1
      · subst h1
        have ST := stays_tag l at_ hat
        have K := fun w h => itag_any l p at_ w h
        obtain ⟨⟨num, num2, e, nx⟩, hR⟩ : ∃ R, tagR l at_ = R := ⟨_, rfl⟩
        simp only [hR] at K ST
        have KH := Lib.hid K
        clear hR K h0
        go_wp2_with fail
        refine (KH.out _ hI1).mono ?_
        rintro e3 w3 ⟨rfl, hi, hf⟩
        have hfb3 := hfb.fr hf (show wr.heap.size ≠ p by omega)
        obtain ⟨c0, c1, f0, f1⟩ := cells_of hfb3
        have hg3 : Grew w w3 := hf.grew hgw (fun i e => by omega)
        have HI := Lib.hid hi
        have hB4 := (hfb3.set 0 (.int .i64 e)).set 1 (.int .i64 (fltAt e at_))
        have hI4 : InI ((w3.setCell ⟨wr.heap.size, 0, none⟩ (.int .i64 e)).setCell ⟨wr.heap.size, 1, none⟩ (.int .i64 (fltAt e at_))) p l nx := hi.cell hfb3 (noByte_fault _ _) (by omega) (fr_set2 _ _ _ _)
        have hg4 : Grew w ((w3.setCell ⟨wr.heap.size, 0, none⟩ (.int .i64 e)).setCell ⟨wr.heap.size, 1, none⟩ (.int .i64 (fltAt e at_))) := grew_set (grew_set hg3 hg.size _) hg.size _
        clear hi
        go_wp2_with fail
        refine (at_any l p nx _ hI4).mono ?_
        rintro e4 w4 ⟨rfl, rfl⟩
        obtain ⟨W, hW⟩ : ∃ W, ((w3.setCell ⟨wr.heap.size, 0, none⟩ (.int .i64 e)).setCell ⟨wr.heap.size, 1, none⟩ (.int .i64 (fltAt e at_))) = W := ⟨_, rfl⟩
        rw [hW] at hI4 hg4 hB4 ⊢
        clear hW hfb3 c0 c1 f0 f1 hg3 hfb hI1 hgw e0 e1 HI
        have TS := tests_of ST
        obtain ⟨t1, t2, t3, t4⟩ := TS
        obtain ⟨s1, s2, s3, s4⟩ := ST
        obtain ⟨c0, c1, f0, f1⟩ := cells_of hB4
        go_wp2_with fail
        refine (left_any l p nx _ hI4).mono ?_
        rintro e5 w5 ⟨rfl, nd, rfl⟩
        by_cases he : e = 0
        · subst he
          have s4' := s4 rfl
          clear s3 s4
          clear s4'
          go_wp2
          go_roundw
          case rel => exact ⟨k + 1, nx, by omega, by go_num, hI4.grew (Drew.grew ⟨_, rfl⟩), Grew.trans hg4 (Drew.grew ⟨_, rfl⟩)⟩
          case measure => simp [intOf]; omega
        · have hx := s3 he
          have ef : fltAt e at_ = at_ := by rw [fltAt, if_neg he]
          rw [ef] at c1
          have h1 : ((e : Int) != 0) = true := by simp; omega
          have h2 : ((e : Int) == 0) = false := by simp; omega
          subst hx
          clear s3 s4 ef
          go_wp2
          go_roundw
          case rel => exact ⟨k + 1, nx, by omega, by go_num, hI4.grew (Drew.grew ⟨_, rfl⟩), Grew.trans hg4 (Drew.grew ⟨_, rfl⟩)⟩
          case measure => simp [intOf]; omega
      by_cases h2 : kd = 2
      · subst h2
        have ST := stays_fix l at_ 4 hat
        have K := fun w h => ifour_any l p at_ w h
        obtain ⟨⟨num, e, nx⟩, hR⟩ : ∃ R, fixR l at_ 4 = R := ⟨_, rfl⟩
        simp only [hR] at K ST
        have KH := Lib.hid K
        clear hR K h0
        go_wp2_with fail
        refine (KH.out _ hI1).mono ?_
        rintro e3 w3 ⟨rfl, hi, hf⟩
        have hfb3 := hfb.fr hf (show wr.heap.size ≠ p by omega)
        obtain ⟨c0, c1, f0, f1⟩ := cells_of hfb3
        have hg3 : Grew w w3 := hf.grew hgw (fun i e => by omega)
        have HI := Lib.hid hi
        have hB4 := (hfb3.set 0 (.int .i64 e)).set 1 (.int .i64 (fltAt e at_))
        have hI4 : InI ((w3.setCell ⟨wr.heap.size, 0, none⟩ (.int .i64 e)).setCell ⟨wr.heap.size, 1, none⟩ (.int .i64 (fltAt e at_))) p l nx := hi.cell hfb3 (noByte_fault _ _) (by omega) (fr_set2 _ _ _ _)
        have hg4 : Grew w ((w3.setCell ⟨wr.heap.size, 0, none⟩ (.int .i64 e)).setCell ⟨wr.heap.size, 1, none⟩ (.int .i64 (fltAt e at_))) := grew_set (grew_set hg3 hg.size _) hg.size _
        clear hi
        go_wp2_with fail
        refine (at_any l p nx _ hI4).mono ?_
        rintro e4 w4 ⟨rfl, rfl⟩
        obtain ⟨W, hW⟩ : ∃ W, ((w3.setCell ⟨wr.heap.size, 0, none⟩ (.int .i64 e)).setCell ⟨wr.heap.size, 1, none⟩ (.int .i64 (fltAt e at_))) = W := ⟨_, rfl⟩
        rw [hW] at hI4 hg4 hB4 ⊢
        clear hW hfb3 c0 c1 f0 f1 hg3 hfb hI1 hgw e0 e1 HI
        have TS := tests_of ST
        obtain ⟨t1, t2, t3, t4⟩ := TS
        obtain ⟨s1, s2, s3, s4⟩ := ST
        obtain ⟨c0, c1, f0, f1⟩ := cells_of hB4
        go_wp2_with fail
        refine (left_any l p nx _ hI4).mono ?_
        rintro e5 w5 ⟨rfl, nd, rfl⟩
        by_cases he : e = 0
        · subst he
          have s4' := s4 rfl
          clear s3 s4
          have s5 : ((nx : Int) != (at_ : Int) + 4) = false := by have := s4' (by omega); simp; omega
          clear s4'
          go_wp2
          go_roundw
          case rel => exact ⟨k + 1, nx, by omega, by go_num, hI4.grew (Drew.grew ⟨_, rfl⟩), Grew.trans hg4 (Drew.grew ⟨_, rfl⟩)⟩
          case measure => simp [intOf]; omega
        · have hx := s3 he
          have ef : fltAt e at_ = at_ := by rw [fltAt, if_neg he]
          rw [ef] at c1
          have h1 : ((e : Int) != 0) = true := by simp; omega
          have h2 : ((e : Int) == 0) = false := by simp; omega
          subst hx
          clear s3 s4 ef
          go_wp2
          go_roundw
          case rel => exact ⟨k + 1, nx, by omega, by go_num, hI4.grew (Drew.grew ⟨_, rfl⟩), Grew.trans hg4 (Drew.grew ⟨_, rfl⟩)⟩
          case measure => simp [intOf]; omega
      by_cases h3 : kd = 3
      · subst h3
        have ST := stays_fix l at_ 8 hat
        have K := fun w h => ieight_any l p at_ w h
        obtain ⟨⟨num, e, nx⟩, hR⟩ : ∃ R, fixR l at_ 8 = R := ⟨_, rfl⟩
        simp only [hR] at K ST
        have KH := Lib.hid K
        clear hR K h0
        go_wp2_with fail
        refine (KH.out _ hI1).mono ?_
        rintro e3 w3 ⟨rfl, hi, hf⟩
        have hfb3 := hfb.fr hf (show wr.heap.size ≠ p by omega)
        obtain ⟨c0, c1, f0, f1⟩ := cells_of hfb3
        have hg3 : Grew w w3 := hf.grew hgw (fun i e => by omega)
        have HI := Lib.hid hi
        have hB4 := (hfb3.set 0 (.int .i64 e)).set 1 (.int .i64 (fltAt e at_))
        have hI4 : InI ((w3.setCell ⟨wr.heap.size, 0, none⟩ (.int .i64 e)).setCell ⟨wr.heap.size, 1, none⟩ (.int .i64 (fltAt e at_))) p l nx := hi.cell hfb3 (noByte_fault _ _) (by omega) (fr_set2 _ _ _ _)
        have hg4 : Grew w ((w3.setCell ⟨wr.heap.size, 0, none⟩ (.int .i64 e)).setCell ⟨wr.heap.size, 1, none⟩ (.int .i64 (fltAt e at_))) := grew_set (grew_set hg3 hg.size _) hg.size _
        clear hi
        go_wp2_with fail
        refine (at_any l p nx _ hI4).mono ?_
        rintro e4 w4 ⟨rfl, rfl⟩
        obtain ⟨W, hW⟩ : ∃ W, ((w3.setCell ⟨wr.heap.size, 0, none⟩ (.int .i64 e)).setCell ⟨wr.heap.size, 1, none⟩ (.int .i64 (fltAt e at_))) = W := ⟨_, rfl⟩
        rw [hW] at hI4 hg4 hB4 ⊢
        clear hW hfb3 c0 c1 f0 f1 hg3 hfb hI1 hgw e0 e1 HI
        have TS := tests_of ST
        obtain ⟨t1, t2, t3, t4⟩ := TS
        obtain ⟨s1, s2, s3, s4⟩ := ST
        obtain ⟨c0, c1, f0, f1⟩ := cells_of hB4
        go_wp2_with fail
        refine (left_any l p nx _ hI4).mono ?_
        rintro e5 w5 ⟨rfl, nd, rfl⟩
        by_cases he : e = 0
        · subst he
          have s4' := s4 rfl
          clear s3 s4
          have s5 : ((nx : Int) != (at_ : Int) + 8) = false := by have := s4' (by omega); simp; omega
          clear s4'
          go_wp2
          go_roundw
          case rel => exact ⟨k + 1, nx, by omega, by go_num, hI4.grew (Drew.grew ⟨_, rfl⟩), Grew.trans hg4 (Drew.grew ⟨_, rfl⟩)⟩
          case measure => simp [intOf]; omega
        · have hx := s3 he
          have ef : fltAt e at_ = at_ := by rw [fltAt, if_neg he]
          rw [ef] at c1
          have h1 : ((e : Int) != 0) = true := by simp; omega
          have h2 : ((e : Int) == 0) = false := by simp; omega
          subst hx
          clear s3 s4 ef
          go_wp2
          go_roundw
          case rel => exact ⟨k + 1, nx, by omega, by go_num, hI4.grew (Drew.grew ⟨_, rfl⟩), Grew.trans hg4 (Drew.grew ⟨_, rfl⟩)⟩
          case measure => simp [intOf]; omega
      by_cases h4 : kd = 4
      · subst h4
        have ST0 := stays_bytes l at_ n hat
        have K := fun w h => ibytes_any l p at_ n o2 o3 (by omega) w h
        obtain ⟨⟨m, e, nx⟩, hR⟩ : ∃ R, bytesR l at_ n = R := ⟨_, rfl⟩
        simp only [hR] at K ST0
        obtain ⟨ST, SB⟩ := ST0
        have KH := Lib.hid K
        clear hR K h0
        go_wp2_with fail
        refine (KH.out _ hI1).mono ?_
        rintro e3 w3 ⟨vx, rfl, ox, hi, hf⟩
        have sx : Bs w3 vx m := Sl.of_own ox
        obtain ⟨ax, cx, rfl⟩ := bs_len sx
        have hfb3 := hfb.fr hf (show wr.heap.size ≠ p by omega)
        obtain ⟨c0, c1, f0, f1⟩ := cells_of hfb3
        have hg3 : Grew w w3 := hf.grew hgw (fun i e => by omega)
        have hs3 := hf.size
        simp at hs3
        obtain ⟨y0, y1, -, -⟩ := cells_of (Blk.new w3 59 #[.int .i64 e, .int .i64 (fltAt e at_)])
        have n3 : wr.heap.size < w3.heap.size := by omega
        have hB4 := ((hfb3.set 0 (.int .i64 e)).set 1 (.int .i64 (fltAt e at_))).alloc (.cells #[.int .i64 e, .int .i64 (fltAt e at_)] 59)
        have hI4 : InI (((w3.setCell ⟨wr.heap.size, 0, none⟩ (.int .i64 e)).setCell ⟨wr.heap.size, 1, none⟩ (.int .i64 (fltAt e at_))).alloc (.cells #[.int .i64 e, .int .i64 (fltAt e at_)] 59)) p l nx := (hi.cell hfb3 (noByte_fault _ _) (by omega) (fr_set2 _ _ _ _)).grew (grew_alloc _ _)
        have hg4 : Grew w (((w3.setCell ⟨wr.heap.size, 0, none⟩ (.int .i64 e)).setCell ⟨wr.heap.size, 1, none⟩ (.int .i64 (fltAt e at_))).alloc (.cells #[.int .i64 e, .int .i64 (fltAt e at_)] 59)) := Grew.trans (grew_set (grew_set hg3 hg.size _) hg.size _) (grew_alloc _ _)
        have hne : (Value.slice ax m.length cx).ownBlock ≠ some wr.heap.size := fun e' => by have := (own_lt ox _ e').1; simp at this; omega
        have hx4 : Bs (((w3.setCell ⟨wr.heap.size, 0, none⟩ (.int .i64 e)).setCell ⟨wr.heap.size, 1, none⟩ (.int .i64 (fltAt e at_))).alloc (.cells #[.int .i64 e, .int .i64 (fltAt e at_)] 59)) (.slice ax m.length cx) m := Sl.of_own (own_grew (own_set (own_set ox _ _ hne) _ _ hne) (grew_alloc _ _))
        by_cases he : e = 0
        · subst he
          have hd : ((0 : Nat) : Int) = 0 := rfl
          go_wp2_with fail
          refine (at_any l p nx _ hI4).mono ?_
          rintro e4 w4 ⟨rfl, rfl⟩
          obtain ⟨W, hW⟩ : ∃ W, (((w3.setCell ⟨wr.heap.size, 0, none⟩ (.int .i64 ((0 : Nat) : Int))).setCell ⟨wr.heap.size, 1, none⟩ (.int .i64 (fltAt 0 at_))).alloc (.cells #[.int .i64 ((0 : Nat) : Int), .int .i64 (fltAt 0 at_)] 59)) = W := ⟨_, rfl⟩
          rw [hW] at hI4 hg4 hB4 hx4 ⊢
          clear hW hfb3 c0 c1 f0 f1 y0 y1 hg3 hfb hI1 hgw e0 e1 hi ox sx hne
          have TS := tests_of ST
          obtain ⟨t1, t2, t3, t4⟩ := TS
          obtain ⟨s1, s2, s3, s4⟩ := ST
          obtain ⟨c0, c1, f0, f1⟩ := cells_of hB4
          obtain ⟨sb1, sb2⟩ := SB (by trivial)
          have hbW := HB.out.grew hg4
          have hcast : ((nx - m.length : Nat) : Int) = (nx : Int) - (m.length : Int) := by omega
          obtain ⟨as_, cs_, hrun, hbs⟩ := slc_span hbW (nx - m.length) nx (by omega) s2
          have hsl := hbs _ hbW
          rw [show nx - (nx - m.length) = m.length by omega] at hrun hsl
          rw [sb2] at hsl
          rw [hcast] at hrun
          have q1 : decide ((nx : Int) - (m.length : Int) < (at_ : Int)) = false := by simp; omega
          have q2 : (0 : Int) ≤ (nx : Int) - (m.length : Int) := by omega
          have ks := same_any m m _ _ W hx4 hsl
          rw [show (m == m) = true by simp] at ks
          have KS := Lib.hid ks
          clear ks hbs hbW hcast sb1 sb2 SB hx4 hsl
          go_wp2_with fail
          refine (at_any l p nx _ hI4).mono ?_
          rintro e4 w4 ⟨rfl, rfl⟩
          go_wp2_with fail
          refine (at_any l p nx _ hI4).mono ?_
          rintro e4 w4 ⟨rfl, rfl⟩
          go_wp2_with fail
          refine KS.out.mono ?_
          rintro e6 w6 ⟨rfl, nd6, rfl⟩
          have hI5 := hI4
          have hg5 := hg4
          replace hI4 := hI4.grew (Drew.grew ⟨nd6, rfl⟩)
          replace hg4 := Grew.trans hg4 (Drew.grew ⟨nd6, rfl⟩)
          clear hrun q1
          go_wp2_with fail
          refine (at_any l p nx _ hI4).mono ?_
          rintro e4 w4 ⟨rfl, rfl⟩
          go_wp2_with fail
          refine (left_any l p nx _ hI4).mono ?_
          rintro e5 w5 ⟨rfl, nd, rfl⟩
          go_wp2
          go_roundw
          case rel => exact ⟨k + 1, nx, by omega, by go_num, hI5.grew (Drew.grew ⟨_, rfl⟩), Grew.trans hg5 (Drew.grew ⟨_, rfl⟩)⟩
          case measure => simp [intOf]; omega
        · have ef0 : fltAt e at_ = at_ := by rw [fltAt, if_neg he]
          have ef := Lib.hid ef0
          clear ef0
          have hz1 : ((e : Int) != 0) = true := by simp; omega
          have hz2 : ((e : Int) == 0) = false := by simp; omega
          clear SB
          go_wp2_with fail
          refine (at_any l p nx _ hI4).mono ?_
          rintro e4 w4 ⟨rfl, rfl⟩
          obtain ⟨W, hW⟩ : ∃ W, (((w3.setCell ⟨wr.heap.size, 0, none⟩ (.int .i64 e)).setCell ⟨wr.heap.size, 1, none⟩ (.int .i64 (fltAt e at_))).alloc (.cells #[.int .i64 e, .int .i64 (fltAt e at_)] 59)) = W := ⟨_, rfl⟩
          rw [hW] at hI4 hg4 hB4 hx4 ⊢
          clear hW hfb3 c0 c1 f0 f1 y0 y1 hg3 hfb hI1 hgw e0 e1 hi ox sx hne
          have TS := tests_of ST
          obtain ⟨t1, t2, t3, t4⟩ := TS
          obtain ⟨s1, s2, s3, s4⟩ := ST
          obtain ⟨c0, c1, f0, f1⟩ := cells_of hB4
          have hx := s3 he
          rw [ef.out] at c1
          subst hx
          clear s3 s4 ef
          go_wp2_with fail
          refine (left_any l p _ _ hI4).mono ?_
          rintro e5 w5 ⟨rfl, nd, rfl⟩
          go_wp2
          go_roundw
          case rel => exact ⟨k + 1, _, by omega, by go_num, hI4.grew (Drew.grew ⟨_, rfl⟩), Grew.trans hg4 (Drew.grew ⟨_, rfl⟩)⟩
          case measure => simp [intOf]; omega
      have k0 : ((kd : Int) == 0) = false := by simp; omega
      have k1 : ((kd : Int) == 1) = false := by simp; omega
      have k2 : ((kd : Int) == 2) = false := by simp; omega
      have k3 : ((kd : Int) == 3) = false := by simp; omega
      have k4 : ((kd : Int) == 4) = false := by simp; omega
      have ST := stays_take l at_ n hat
      have K := fun w h => itake_any l p at_ n o3 (by omega) w h
      obtain ⟨⟨m, e, nx⟩, hR⟩ : ∃ R, takeR l at_ n = R := ⟨_, rfl⟩
      simp only [hR] at K ST
      have KH := Lib.hid K
      clear hR K h0 h1 h2 h3 h4
      go_wp2_with fail
      refine (KH.out _ hI1).mono ?_
      rintro e3 w3 ⟨vx, rfl, ox, hi, hf⟩
      have sx : Bs w3 vx m := Sl.of_own ox
      obtain ⟨ax, cx, rfl⟩ := bs_len sx
      have hfb3 := hfb.fr hf (show wr.heap.size ≠ p by omega)
      obtain ⟨c0, c1, f0, f1⟩ := cells_of hfb3
      have hg3 : Grew w w3 := hf.grew hgw (fun i e => by omega)
      have hs3 := hf.size
      simp at hs3
      obtain ⟨y0, y1, -, -⟩ := cells_of (Blk.new w3 59 #[.int .i64 e, .int .i64 (fltAt e at_)])
      have n3 : wr.heap.size < w3.heap.size := by omega
      have hB4 := ((hfb3.set 0 (.int .i64 e)).set 1 (.int .i64 (fltAt e at_))).alloc (.cells #[.int .i64 e, .int .i64 (fltAt e at_)] 59)
      have hI4 : InI (((w3.setCell ⟨wr.heap.size, 0, none⟩ (.int .i64 e)).setCell ⟨wr.heap.size, 1, none⟩ (.int .i64 (fltAt e at_))).alloc (.cells #[.int .i64 e, .int .i64 (fltAt e at_)] 59)) p l nx := (hi.cell hfb3 (noByte_fault _ _) (by omega) (fr_set2 _ _ _ _)).grew (grew_alloc _ _)
      have hg4 : Grew w (((w3.setCell ⟨wr.heap.size, 0, none⟩ (.int .i64 e)).setCell ⟨wr.heap.size, 1, none⟩ (.int .i64 (fltAt e at_))).alloc (.cells #[.int .i64 e, .int .i64 (fltAt e at_)] 59)) := Grew.trans (grew_set (grew_set hg3 hg.size _) hg.size _) (grew_alloc _ _)
      have hne : (Value.slice ax m.length cx).ownBlock ≠ some wr.heap.size := fun e' => by have := (own_lt ox _ e').1; simp at this; omega
      have hx4 : Bs (((w3.setCell ⟨wr.heap.size, 0, none⟩ (.int .i64 e)).setCell ⟨wr.heap.size, 1, none⟩ (.int .i64 (fltAt e at_))).alloc (.cells #[.int .i64 e, .int .i64 (fltAt e at_)] 59)) (.slice ax m.length cx) m := Sl.of_own (own_grew (own_set (own_set ox _ _ hne) _ _ hne) (grew_alloc _ _))
      by_cases he : e = 0
      · subst he
        have hml : (0 : Int) ≤ (at_ : Int) + (m.length : Int) ∧ (at_ : Int) + (m.length : Int) ≤ 9223372036854775807 := by
          obtain ⟨s1, s2, s3, s4⟩ := ST
          by_cases hm : 0 < m.length
          · have := s4 rfl hm; omega
          · omega
        go_wp2_with fail
        refine (at_any l p nx _ hI4).mono ?_
        rintro e4 w4 ⟨rfl, rfl⟩
        obtain ⟨W, hW⟩ : ∃ W, (((w3.setCell ⟨wr.heap.size, 0, none⟩ (.int .i64 ((0 : Nat) : Int))).setCell ⟨wr.heap.size, 1, none⟩ (.int .i64 (fltAt 0 at_))).alloc (.cells #[.int .i64 ((0 : Nat) : Int), .int .i64 (fltAt 0 at_)] 59)) = W := ⟨_, rfl⟩
        rw [hW] at hI4 hg4 hB4 hx4 ⊢
        clear hW hfb3 c0 c1 f0 f1 y0 y1 hg3 hfb hI1 hgw e0 e1 hi ox sx hne
        have TS := tests_of ST
        obtain ⟨t1, t2, t3, t4⟩ := TS
        obtain ⟨s1, s2, s3, s4⟩ := ST
        obtain ⟨c0, c1, f0, f1⟩ := cells_of hB4
        have s4' := s4 rfl
        clear s3 s4 hx4
        go_wp2_with fail
        refine (left_any l p nx _ hI4).mono ?_
        rintro e5 w5 ⟨rfl, nd, rfl⟩
        by_cases hm : 0 < m.length
        · have s5 : ((nx : Int) != (at_ : Int) + (m.length : Int)) = false := by have := s4' hm; simp; omega
          clear s4'
          go_wp2
          go_roundw
          case rel => exact ⟨k + 1, nx, by omega, by go_num, hI4.grew (Drew.grew ⟨_, rfl⟩), Grew.trans hg4 (Drew.grew ⟨_, rfl⟩)⟩
          case measure => simp [intOf]; omega
        · have s5 : decide ((0 : Int) < (m.length : Int)) = false := by rw [decide_eq_false_iff_not]; omega
          have s6 : decide (0 < m.length) = false := by rw [decide_eq_false_iff_not]; omega
          clear s4'
          go_wp2
          go_roundw
          case rel => exact ⟨k + 1, nx, by omega, by go_num, hI4.grew (Drew.grew ⟨_, rfl⟩), Grew.trans hg4 (Drew.grew ⟨_, rfl⟩)⟩
          case measure => simp [intOf]; omega
      · have ef0 : fltAt e at_ = at_ := by rw [fltAt, if_neg he]
        have ef := Lib.hid ef0
        clear ef0
        have hz1 : ((e : Int) != 0) = true := by simp; omega
        have hz2 : ((e : Int) == 0) = false := by simp; omega
        go_wp2_with fail
        refine (at_any l p nx _ hI4).mono ?_
        rintro e4 w4 ⟨rfl, rfl⟩
        obtain ⟨W, hW⟩ : ∃ W, (((w3.setCell ⟨wr.heap.size, 0, none⟩ (.int .i64 e)).setCell ⟨wr.heap.size, 1, none⟩ (.int .i64 (fltAt e at_))).alloc (.cells #[.int .i64 e, .int .i64 (fltAt e at_)] 59)) = W := ⟨_, rfl⟩
        rw [hW] at hI4 hg4 hB4 hx4 ⊢
        clear hW hfb3 c0 c1 f0 f1 y0 y1 hg3 hfb hI1 hgw e0 e1 hi ox sx hne
        have TS := tests_of ST
        obtain ⟨t1, t2, t3, t4⟩ := TS
        obtain ⟨s1, s2, s3, s4⟩ := ST
        obtain ⟨c0, c1, f0, f1⟩ := cells_of hB4
        have hx := s3 he
        rw [ef.out] at c1
        subst hx
        clear s3 s4 ef
        go_wp2_with fail
        refine (left_any l p _ _ hI4).mono ?_
        rintro e5 w5 ⟨rfl, nd, rfl⟩
        go_wp2
        go_roundw
        case rel => exact ⟨k + 1, _, by omega, by go_num, hI4.grew (Drew.grew ⟨_, rfl⟩), Grew.trans hg4 (Drew.grew ⟨_, rfl⟩)⟩
        case measure => simp [intOf]; omega
    · obtain rfl : k = A.length := by omega
      go_wp2
      go_ret
      exact ⟨rfl, hg⟩
end Go.Proofs.Ytakogncnkbgkfaa
