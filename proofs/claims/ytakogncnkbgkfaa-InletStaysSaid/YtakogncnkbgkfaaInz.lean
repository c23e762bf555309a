/- The law InletReads returns true: its walk. -/
import Derived.Test.YtakogncnkbgkfaaInv
namespace Go.Proofs.Ytakogncnkbgkfaa
open Go Go.RowKit Go.Shelf
attribute [local go_sem] Oper.semAt_some

/-- an ask: its kind, and a number -/
abbrev Ask4 := Nat × Int
def ask4V (a : Ask4) : List Value := [.int .u8 a.1, .int .i64 a.2]
def asks4V (l : List Ask4) : List Value := l.flatMap ask4V
def Ask4.ok (a : Ask4) : Prop := a.1 < 256 ∧ -9223372036854775808 ≤ a.2 ∧ a.2 ≤ 9223372036854775807
theorem flat_get4 {α : Type} {f : α → List Value} {k : Nat} (hf : ∀ x, (f x).length = k) : ∀ (l : List α) (j : Nat) (hj : j < l.length) (i : Nat), i < k → (l.flatMap f)[j * k + i]? = (f l[j])[i]?
  | x :: l, 0, _, i, hi => by
    rw [Nat.zero_mul, Nat.zero_add, List.flatMap_cons, List.getElem?_append_left (by rw [hf]; exact hi)]; rfl
  | x :: l, j + 1, hj, i, hi => by
    rw [List.flatMap_cons, List.getElem?_append_right (by rw [hf, Nat.add_mul]; omega), hf, show (j + 1) * k + i - k = j * k + i by rw [Nat.add_mul]; omega, flat_get4 hf l j (by simpa using hj) i hi]; rfl
  | [], _, hj, _, _ => by simp at hj

set_option maxRecDepth 100000 in
set_option maxHeartbeats 4000000 in
theorem inlet_reads (l : List UInt8) (A : List Ask4) (va vb : Value) (w : World) (hb : Bs w va l) (ha : Sl w vb A.length 2 (asks4V A)) (hA : ∀ a ∈ A, Ask4.ok a) :
    Calls Try.prog 5 #[va, vb] w fun e w' => e = .returned (.bool true) ∧ Grew w w' := by
  obtain ⟨a1, c1, rfl, l1, l2, -⟩ := hb.open
  obtain ⟨a2, c2, rfl, m1, m2, -, hcell⟩ := ha.open
  unfold maxLen at l2 m2
  clear ha
  by_cases hl : 1000 < l.length
  · clear hb hcell
    go_enter Try.func5, Try.ntmps5
    go_wp2_with fail
    refine (live4_any _).mono ?_
    rintro e w1 ⟨rfl, g1⟩
    go_wp2
    go_ret
    exact ⟨rfl, g1⟩
  have hl' : l.length ≤ 1000 := by omega
  by_cases hn : 60 < A.length
  · clear hb hcell
    go_enter Try.func5, Try.ntmps5
    go_wp2_with fail
    refine (live4_any _).mono ?_
    rintro e w1 ⟨rfl, g1⟩
    go_wp2
    go_ret
    exact ⟨rfl, g1⟩
  have hn' : A.length ≤ 60 := by omega
  clear hl hn
  go_enter Try.func5, Try.ntmps5
  go_wp2_with fail
  refine (live4_any _).mono ?_
  rintro e w1 ⟨rfl, g1⟩
  have hb1 := hb.grew g1
  go_wp2_with fail
  refine (inew_any l _ _ hb1 (by omega)).mono ?_
  rintro e w2 ⟨p, rfl, hp, hi, g2⟩
  have g12 := Grew.trans g1 g2
  have hr : InR (w2.alloc (.cells #[.slice a1 l.length c1, .int .i64 0] 53)) w2.heap.size l 0 := ⟨_, Blk.new _ _ _, (hb1.grew g2).grew (grew_alloc _ _), Nat.zero_le _⟩
  have hpl := hi.lt
  have hi' := hi.grew (grew_alloc w2 (.cells #[.slice a1 l.length c1, .int .i64 0] 53))
  have g03 := Grew.trans g12 (grew_alloc w2 (.cells #[.slice a1 l.length c1, .int .i64 0] 53))
  have hp0 : w.heap.size ≤ p := Nat.le_trans g1.size hp
  have hq0 : w.heap.size ≤ w2.heap.size := g12.size
  have hpq : p ≠ w2.heap.size := by omega
  have HC := Lib.hid hcell
  have HAk := Lib.hid hA
  obtain ⟨q, hq⟩ : ∃ q, w2.heap.size = q := ⟨_, rfl⟩
  rw [hq] at hr hpq hq0
  have HQ := Lib.hid hq
  clear hi hb hb1 g1 g2 g12 hcell hA hpl hp hq
  go_wp2_with fail
  rw [HQ.out]
  go_loopw [7] (fun i wr => ∃ k at_ : Nat, k ≤ A.length ∧ i = .int .i64 k ∧ InI wr p l at_ ∧ InR wr q l at_ ∧ Grew w wr) (fun i _ => A.length - (intOf i).toNat)
  case atStart => exact ⟨0, 0, by omega, rfl, hi', hr, g03⟩
  case round =>
    obtain ⟨k, at_, hk, rfl, hI, hR, hg⟩ := hrel
    clear hi' hr g03
    by_cases hlt : k < A.length
    · obtain ⟨b, off, rfl, hcl⟩ := HC.out (by omega)
      obtain ⟨⟨kd, n⟩, hak⟩ : ∃ a, A[k] = a := ⟨_, rfl⟩
      have hok := HAk.out A[k] (List.getElem_mem hlt)
      rw [hak] at hok
      obtain ⟨o1, o2, o3⟩ := hok
      have hga : ∀ i, i < 2 → (asks4V A)[k * 2 + i]? = (ask4V (kd, n))[i]? := fun i hi => by rw [← hak]; exact flat_get4 (k := 2) (fun _ => rfl) A k hlt i hi
      have d0 := hcl _ _ (hga 0 (by omega))
      have d1 := hcl _ _ (hga 1 (by omega))
      have e0 := (below_ext hg) _ _ d0
      have e1 := (below_ext hg) _ _ d1
      simp only [Nat.add_zero, ← Nat.add_assoc] at d0 d1 e0 e1
      have ko := one_any l p q at_ kd n o2 o3 hl' hpq
      have KO := Lib.hid ko
      clear hga hcl hak ko
      go_wp2
      have hId := hI.grew (Drew.grew ⟨1, rfl⟩)
      have hRd := hR.grew (Drew.grew ⟨1, rfl⟩)
      have hgd := Grew.trans hg (Drew.grew ⟨1, rfl⟩)
      obtain ⟨nx, hnx⟩ : ∃ nx, askR l at_ kd n = nx := ⟨_, rfl⟩
      rw [hnx] at KO
      clear hnx
      refine wp_region_held_drew (S := fun W => W.cell? ⟨b, off + k * 2, none⟩ = some (.int .u8 kd) ∧ W.cell? ⟨b, off + k * 2 + 1, none⟩ = some (.int .i64 n)) (by kernel_rfl) ⟨e0, e1⟩ (fun hHeld => ?_)
      refine wpAnyH_take (i := 0) (oi := _) (v := ?_) rfl (by kernel_rfl) (by kernel_rfl) (by kernel_rfl) (fun _ _ _ h => h) (Or.inl ⟨by rfl, ?_⟩) (by assumption) ?_
      rotate_left
      · (intro w hSw; obtain ⟨s0, s1⟩ := hSw; go_simp; try with_reducible rfl)
      simp only [Act.put, List.setIfInBounds_toArray, List.set_cons_zero, List.set_cons_succ]
      refine wpAnyH_take (i := 1) (oi := _) (v := ?_) rfl (by kernel_rfl) (by kernel_rfl) (by kernel_rfl) (fun _ _ _ h => h) (Or.inl ⟨by rfl, ?_⟩) (by assumption) ?_
      rotate_left
      · (intro w hSw; obtain ⟨s0, s1⟩ := hSw; go_simp; try with_reducible rfl)
      simp only [Act.put, List.setIfInBounds_toArray, List.set_cons_zero, List.set_cons_succ]
      refine wpAnyH_take (i := 2) (oi := _) (v := ?_) rfl (by kernel_rfl) (by kernel_rfl) (by kernel_rfl) (fun _ _ _ h => h) (Or.inl ⟨by rfl, ?_⟩) (by assumption) ?_
      rotate_left
      · (intro w hSw; obtain ⟨s0, s1⟩ := hSw; go_simp; try with_reducible rfl)
      simp only [Act.put, List.setIfInBounds_toArray, List.set_cons_zero, List.set_cons_succ]
      refine wpAnyH_take (i := 3) (oi := _) (v := ?_) rfl (by kernel_rfl) (by kernel_rfl) (by kernel_rfl) (fun _ _ _ h => h) (Or.inl ⟨by rfl, ?_⟩) (by assumption) ?_
      rotate_left
      · (intro w hSw; obtain ⟨s0, s1⟩ := hSw; go_simp; try with_reducible rfl)
      simp only [Act.put, List.setIfInBounds_toArray, List.set_cons_zero, List.set_cons_succ]
      refine wpAnyH_take (i := 4) (oi := _) (v := ?_) rfl (by kernel_rfl) (by kernel_rfl) (by kernel_rfl) (fun _ _ _ h => h) (Or.inl ⟨by rfl, ?_⟩) (by assumption) ?_
      rotate_left
      · (intro w hSw; obtain ⟨s0, s1⟩ := hSw; go_simp; try with_reducible rfl)
      simp only [Act.put, List.setIfInBounds_toArray, List.set_cons_zero, List.set_cons_succ]
      refine wpAnyH_take (i := 5) (oi := _) (v := ?_) rfl (by kernel_rfl) (by kernel_rfl) (by kernel_rfl) (fun _ _ _ h => h) (Or.inl ⟨by rfl, ?_⟩) (by assumption) ?_
      rotate_left
      · (intro w hSw; obtain ⟨s0, s1⟩ := hSw; go_simp; try with_reducible rfl)
      simp only [Act.put, List.setIfInBounds_toArray, List.set_cons_zero, List.set_cons_succ]
      refine wpAnyH_ready (rs := [6]) (by kernel_rfl) (by simp) ?_
      refine AllReadyH.cons (o := _) rfl (fun K hK => ?_) AllReadyH.nil
      go_simp
      refine (KO.out _ hId hRd).mono ?_
      rintro e3 W3 ⟨rfl, hI3, hR3, hF3⟩
      have hg3 : Grew w W3 := hF3.grew hgd (fun i e => by rcases e with rfl | rfl <;> omega)
      have hk0 := (below_ext hg3) _ _ d0
      have hk1 := (below_ext hg3) _ _ d1
      obtain ⟨v3, hb3, hbs3, hx3⟩ := id hR3
      obtain ⟨y0, y1, -, -⟩ := cells_of hb3
      have hsub : ((l.length - nx : Nat) : Int) = (l.length : Int) - (nx : Int) := by omega
      have hnn : (0 : Int) ≤ (l.length : Int) - (nx : Int) := by omega
      have HI3 := Lib.hid hI3
      clear e0 e1 hI hR hg hId hRd hgd d0 d1 KO hI3 hHeld
      go_simp
      refine hK.out _ _ ⟨hk0, hk1⟩ (fun _ => ?_)
      clear hK K
      (try simp only [Act.put, List.setIfInBounds_toArray, List.set_cons_zero, List.set_cons_succ])
      refine wpAnyH_tail 7 rfl (by kernel_rfl) (by kernel_rfl) (fun m => ⟨by simpa using hk0, by simpa using hk1⟩) ?_
      simp only [List.drop_succ_cons, List.drop_zero]
      repeat (go_big_quiet_step ((first | (go_at_call 23; exact quiet_eq (at_any l p nx _ (HI3.out.grew (Drew.grew ⟨_, rfl⟩)))) | (go_at_call 24; exact quiet_drew (left_any l p nx _ (HI3.out.grew (Drew.grew ⟨_, rfl⟩)))))))
      refine wpQuiet_nil ?_
      rintro _ ⟨nq, rfl⟩
      clear y0 y1 hsub hnn hk0 hk1
      go_wp2
      go_roundw
      case rel => exact ⟨k + 1, nx, by omega, by go_num, HI3.out.grew (Drew.grew ⟨_, rfl⟩), hR3.grew (Drew.grew ⟨_, rfl⟩), Grew.trans hg3 (Drew.grew ⟨_, rfl⟩)⟩
      case measure => simp [intOf]; omega
    · obtain rfl : k = A.length := by omega
      go_wp2
      go_ret
      exact ⟨rfl, hg⟩
end Go.Proofs.Ytakogncnkbgkfaa
