/- resync.each: the iterator over what stands at the places of a stream. -/
import Derived.Test.YtoinndlialimcaaFrW
import Derived.Test.YtoinndlialimcaaItw
namespace Go.Proofs.Ytoinndlialimcaa
open Go Go.RowKit Go.Shelf
attribute [local go_sem] Oper.semAt_some

/-- what is yielded: a place, and the payload's slice value -/
abbrev Mk := Nat × Value
/-- what is read at a place -/
def rdAt (l : List UInt8) (k : Nat) : Frm × Nat × Nat := fread (l.drop k)
def encMk (l : List UInt8) (x : Mk) : Array Value := #[.agg #[.int .i64 (x.1 : Nat), .int .i64 ((rdAt l x.1).2.1 : Nat), .int .u8 ((rdAt l x.1).1.1.toNat : Int), x.2, .int .i64 ((rdAt l x.1).2.2 : Nat)]]
/-- the place behind those -/
def nextPos (l : List UInt8) (pre : List Mk) : Nat := (pre.getLast?.map fun x => x.1 + max (rdAt l x.1).2.1 1).getD 0
theorem nextPos_nil (l : List UInt8) : nextPos l [] = 0 := rfl
theorem nextPos_snoc (l : List UInt8) (pre : List Mk) (x : Mk) : nextPos l (pre ++ [x]) = x.1 + max (rdAt l x.1).2.1 1 := by simp [nextPos]
def OkMk (l : List UInt8) (n₀ : Nat) (pre : List Mk) (x : Mk) (W : World) : Prop := x.1 < l.length ∧ x.1 = nextPos l pre ∧ PayV W n₀ x.2 (rdAt l x.1).1.2

theorem reach_any (a : Option Addr) (n c : Nat) (w : World) : Calls Try.prog 49 #[.slice a n c] w fun e w' => e = .returned (.func (.func 56) #[] #[.pointer (some ⟨w.heap.size, 0, none⟩)]) ∧ w' = w.alloc (.cells #[.slice a n c] 22) := by
  go_enter Try.func49, Try.ntmps49
  go_wp2
  go_ret
  exact ⟨rfl, rfl⟩

set_option maxRecDepth 100000 in
set_option maxHeartbeats 2000000 in
theorem resync_iter (l : List UInt8) (v : Value) (Bn n₀ : Nat) (w : World) (hn : n₀ ≤ w.heap.size) (hc : Blk w Bn 22 #[v]) (hs : ∀ w', Below n₀ w w' → Bs w' v l) (hlen : l.length ≤ 1000000000) :
    IterW Try.prog 56 #[.pointer (some ⟨Bn, 0, none⟩)] (encMk l) Grew (fun A B => Below n₀ A B ∧ KeepB Bn 22 A B) (OkMk l n₀) (fun xs => l.length ≤ nextPos l xs) (fun _ => True) w := by
  intro lp J Jx W hW hJ hJx hY h0
  have hcW := hc.grew hW
  have hb0 : Bs W v l := (hs w (Below.refl _ _)).grew hW
  obtain ⟨a, cap, rfl, h1, h2, -, h4⟩ := hb0.open
  unfold maxLen at h2
  refine callsIn_of_wp Try.func56 rfl trivial ?_ rfl
  simp only [Try.ntmps56, List.size_toArray, List.length_cons, List.length_nil, Nat.reduceAdd, Nat.reduceSub, Array.replicate_succ, Array.replicate_zero, List.push_toArray, List.append_toArray, List.nil_append, List.cons_append]
  have H4 := Lib.hid h4
  clear h4 hb0
  gi_wp2
  gi_loopw [3] (fun i wr => ∃ (k : Nat) (pre : List Mk), i = .int .i64 k ∧ k = nextPos l pre ∧ k ≤ l.length ∧ J pre wr ∧ Below n₀ w wr ∧ Blk wr Bn 22 #[.slice a l.length cap]) (fun i _ => l.length - (intOf i).toNat)
  case atStart => exact ⟨0, [], rfl, rfl, Nat.zero_le _, h0, hW.mono hn, hcW⟩
  case round =>
    obtain ⟨k, pre, rfl, hkn, hkl, hJ1, hB, hbx⟩ := hrel
    have c1 := hbx.cell 0
    simp only [List.getElem?_toArray, List.getElem?_cons_zero] at c1
    by_cases hlt : k < l.length
    · obtain ⟨b, o, rfl, -⟩ := H4.out (by omega)
      have hz : ¬ cap = k := by omega
      have hbr := hs wr hB
      have hbd := bs_drop hbr k (by omega)
      obtain ⟨X, hX⟩ : ∃ X, X = rdAt l k := ⟨_, rfl⟩
      have hX2 : X.2.1 ≤ l.length - k := by
        rw [hX]; unfold rdAt fread
        split
        · rename_i h; have := (ferr_zero h).1; simp at this; simp; omega
        · simp
      have kr := fread_any (l.drop k) _ _ hbd (by simp; omega)
      rw [← rdAt, ← hX] at kr
      have HX := Lib.hid hX
      have HXL := Lib.hid hX2
      have KR := Lib.hid kr
      have HKN := Lib.hid hkn
      clear kr hbd hbr hX hX2 hkn
      gi_wp2_with fail
      refine (callsIn_wide.2 KR.out).mono ?_
      rintro e w1 ⟨v1, rfl, hp1, g1⟩
      obtain ⟨a1, n1, c1, rfl, hn1⟩ := hp1.shape
      have gA := grew_alloc w1 (.cells #[.int .u8 (X.1.1.toNat : Int), .slice a1 n1 c1] 38)
      have g2 := Grew.trans g1 gA
      have hJ2 := hJ _ _ _ hJ1 g2
      have hn0 : n₀ ≤ wr.heap.size := Nat.le_trans hn hB.size
      have hok : OkMk l n₀ pre (k, .slice a1 n1 c1) (w1.alloc (.cells #[.int .u8 (X.1.1.toNat : Int), .slice a1 n1 c1] 38)) := ⟨hlt, HKN.out, by show PayV _ _ _ (rdAt l k).1.2; rw [← HX.out]; exact (hp1.grew gA).mono hn0⟩
      obtain ⟨fn, tmps, assign, body, hy, hR⟩ := hY _ _ _ hJ2 hok
      simp only [encMk, ← HX.out] at hy
      have hbx2 := hbx.grew g2
      have hB2 : Below n₀ w _ := Below.trans hB (g2.mono hn0)
      have hm : (if (X.2.1 : Int) ≤ 1 then (1 : Int) else (X.2.1 : Int)) = ((max X.2.1 1 : Nat) : Int) := by
        split <;> omega
      have hm2 : (k : Int) + ((max X.2.1 1 : Nat) : Int) = ((k + max X.2.1 1 : Nat) : Int) := by omega
      have hk2 : k + max X.2.1 1 ≤ l.length := by have := HXL.out; omega
      clear hJ1 hbx hB hY hok hJ hJx hp1
      gi_wp2
      refine hR.mono ?_
      rintro e W3 (⟨rfl, hJ3, hk3, hk4⟩ | ⟨rfl, hJx3⟩)
      · have hb3 := hk4 _ hbx2
        clear hy hR hbx2 hJ2
        gi_wp2
        have e1 : (k : Int) + max (X.2.1 : Int) 1 = ((k + max X.2.1 1 : Nat) : Int) := by omega
        rw [e1]
        refine ⟨⟨k + max X.2.1 1, _, rfl, by rw [nextPos_snoc]; simp only [← HX.out], hk2, hJ3, Below.trans hB2 hk3, hb3⟩, ?_⟩
        simp only [intOf, Int.toNat_natCast]; omega
      · clear hy hR hbx2 hJ2
        gi_wp2
        refine bodyPost_ret (results_none rfl _ _ _) rfl ?_
        exact ⟨⟨_, rfl⟩, .inr ⟨_, trivial, hJx3⟩⟩
    · obtain rfl : k = l.length := by omega
      have HKN := Lib.hid hkn
      clear hkn
      gi_wp2
      go_end0
      exact ⟨⟨_, rfl⟩, .inl ⟨pre, by rw [← HKN.out]; exact Nat.le_refl _, hJ1⟩⟩

end Go.Proofs.Ytoinndlialimcaa
