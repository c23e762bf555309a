/- skip.each: the iterator over the fields of bytes. -/
import Derived.Test.YtgoaijpckckdnaaSkO
import Derived.Test.YtgoaijpckckdnaaItw
import Derived.Test.YtgoaijpckckdnaaTch
namespace Go.Proofs.Ytgoaijpckckdnaa
open Go Go.RowKit Go.Shelf
attribute [local go_sem] Oper.semAt_some

/-- what is yielded: a place, and the payload's slice value -/
abbrev MkF := Nat × Value
def encF (l : List UInt8) (x : MkF) : Array Value := #[fldA (oneR l x.1).1 x.2, faultV (oneR l x.1).2.1 (oneR l x.1).2.2.1]
/-- the place behind those -/
def nextF (l : List UInt8) (pre : List MkF) : Nat := (pre.getLast?.map fun x => (oneR l x.1).2.2.2).getD 0
theorem nextF_nil (l : List UInt8) : nextF l [] = 0 := rfl
theorem nextF_snoc (l : List UInt8) (pre : List MkF) (x : MkF) : nextF l (pre ++ [x]) = (oneR l x.1).2.2.2 := by simp [nextF]
def goodF (l : List UInt8) (pre : List MkF) : Prop := ∀ x ∈ pre, (oneR l x.1).2.1 = 0
def OkF (l : List UInt8) (n₀ : Nat) (pre : List MkF) (x : MkF) (W : World) : Prop := x.1 < l.length ∧ x.1 = nextF l pre ∧ PayV W n₀ x.2 (fB (oneR l x.1).1)
/-- types that a round leaves alone -/
def SkT (t : TypeId) : Prop := t = 137 ∨ t = 5 ∨ t = 22 ∨ t = 27
instance (t : TypeId) : Decidable (SkT t) := by unfold SkT; infer_instance

theorem skeach_any (a : Option Addr) (n c : Nat) (w : World) : Calls Try.prog 59 #[.slice a n c] w fun e w' => e = .returned (.func (.func 103) #[] #[.pointer (some ⟨w.heap.size, 0, none⟩)]) ∧ w' = w.alloc (.cells #[.slice a n c] 22) := by
  go_enter Try.func59, Try.ntmps59
  go_wp2
  go_ret
  exact ⟨rfl, rfl⟩

set_option maxRecDepth 100000 in
set_option maxHeartbeats 2000000 in
theorem skip_iter (l : List UInt8) (v : Value) (Bn n₀ : Nat) (w : World) (hn : n₀ ≤ w.heap.size) (hc : Blk w Bn 22 #[v]) (hs : Bs w v l) (hlen : l.length ≤ 1000000000) :
    IterW Try.prog 103 #[.pointer (some ⟨Bn, 0, none⟩)] (encF l) (Tch (· = 137) n₀) (KeepT SkT) (OkF l n₀) (fun xs => l.length ≤ nextF l xs ∨ ¬ goodF l xs) (fun _ => True) w := by
  intro lp J Jx W hW hJ hJx hY h0
  have hcW := hc.grew hW
  have hbW := hs.grew hW
  have c0 := hcW.cell 0
  simp only [List.getElem?_toArray, List.getElem?_cons_zero] at c0
  obtain ⟨a, cap, rfl, h1, h2, -, -⟩ := hbW.open
  refine callsIn_of_wp Try.func103 rfl trivial ?_ rfl
  simp only [Try.ntmps103, List.size_toArray, List.length_cons, List.length_nil, Nat.reduceAdd, Nat.reduceSub, Array.replicate_succ, Array.replicate_zero, List.push_toArray, List.append_toArray, List.nil_append, List.cons_append]
  refine wpIn_scope_wide ?_
  gi_wp2_with fail
  refine (callsIn_wide.2 (inew_any l _ _ hbW (by omega))).mono ?_
  rintro e w1 ⟨p, v0, rfl, hp, hI, ho, g1⟩
  have hJ1 := hJ _ _ _ h0 (Tch.of_grew g1 (by have := hW.size; omega))
  have hn1 : n₀ ≤ w1.heap.size := by have := hW.size; have := g1.size; omega
  have hn2 : n₀ ≤ W.heap.size := by have := hW.size; omega
  have HO := Lib.hid ho
  have G1 := Lib.hid g1
  clear hcW hbW c0 h0 ho g1
  gi_wp2
  refine wpIn_label ?_
  gi_wp2
  gi_loopw [8] (fun _ wr => ∃ (k : Nat) (pre : List MkF), k = nextF l pre ∧ k ≤ l.length ∧ goodF l pre ∧ J pre wr ∧ InI (· = v0) wr p l k ∧ OwnB wr W.heap.size v0 l ∧ w1.heap.size ≤ wr.heap.size) (fun _ wr => l.length - offOf wr p)
  case atStart => exact ⟨0, [], rfl, Nat.zero_le _, (fun x h => by cases h), hJ1, hI, HO.out, Nat.le_refl _⟩
  case round =>
    obtain ⟨k, pre, hkn, hkl, hgd, hJr, hIr, hor, hzr⟩ := hrel
    have HOFF := Lib.hid (offOf_in hIr)
    have HKN := Lib.hid hkn
    clear hkn
    gi_wp2_with fail
    refine (callsIn_wide.2 (left_any l p k _ hIr)).mono ?_
    rintro e w2 ⟨rfl, g2⟩
    have hg2 := g2.grew
    have hI2 := hIr.grew hg2
    have hJ2 := hJ _ _ _ hJr (Tch.of_grew hg2 (by omega))
    have ho2 := own_grew hor hg2
    have hz2 := hg2.size
    clear hIr hJr hor
    by_cases hlt : k < l.length
    · gi_wp2_with fail
      refine (callsIn_wide.2 (skone_any l p k hlen _ hI2)).mono ?_
      obtain ⟨X, hX⟩ : ∃ X, X = oneR l k := ⟨_, rfl⟩
      rw [← hX]
      rintro e w3 ⟨pv, rfl, hpo, hI3, hF3⟩
      have hp1 := PayV.of_own hpo
      obtain ⟨a1, n1, c1, rfl, hn1'⟩ := hp1.shape
      have ho3 := own_fr ho2 hF3 (fun g hg e => blk_ne_row hI2.choose_spec.1 ho2 (by decide) (by rw [hg, e]))
      have g4 : Grew w3 ((w3.alloc (.cells #[.int .i64 X.1.1, .int .u8 (X.1.2.1 : Nat), .int .u64 (X.1.2.2.1 : Nat), .slice a1 n1 c1, .int .i64 X.1.2.2.2.2] 39)).alloc (.cells #[.int .i64 (X.2.1 : Nat), .int .i64 (X.2.2.1 : Nat)] 27)) := ((Below.refl _ _).alloc (Nat.le_refl _) _).alloc (by simp) _
      have hz3 := hF3.size
      have hJ4 := hJ _ _ _ (hJ _ _ _ hJ2 (Tch.of_fr hF3 hI2.choose_spec.1 rfl (by omega))) (Tch.of_grew g4 (by omega))
      have hok : OkF l n₀ pre (k, .slice a1 n1 c1) _ := ⟨hlt, HKN.out, by show PayV _ _ _ (fB (oneR l k).1); rw [← hX]; exact (hp1.grew g4).mono (by omega)⟩
      obtain ⟨fn, tmps, assign, body, hy, hR⟩ := hY _ _ _ hJ4 hok
      simp only [encF, ← hX] at hy
      have HX := Lib.hid hX
      have hI4 := hI3.grew g4
      have ho4 := own_grew ho3 g4
      have hz4 := g4.size
      have f4 : Blk ((w3.alloc (.cells #[.int .i64 X.1.1, .int .u8 (X.1.2.1 : Nat), .int .u64 (X.1.2.2.1 : Nat), .slice a1 n1 c1, .int .i64 X.1.2.2.2.2] 39)).alloc (.cells #[.int .i64 (X.2.1 : Nat), .int .i64 (X.2.2.1 : Nat)] 27)) (w3.heap.size + 1) 27 #[.int .i64 (X.2.1 : Nat), .int .i64 (X.2.2.1 : Nat)] := Blk.at (by simp)
      clear hX hJ hJx hY hok hJ2 hI3 ho3 hpo hp1 hI2 ho2
      gi_wp2_with fail
      refine hR.mono ?_
      rintro e w5 (⟨rfl, hJ5, hk5⟩ | ⟨rfl, hJx5⟩)
      · have f5 := hk5.blk f4 (.inr (.inr (.inr rfl)))
        have s0 := f5.cell 0
        simp only [List.getElem?_toArray, List.getElem?_cons_zero] at s0
        have ho5 := hk5.own ho4 (.inr (.inl rfl))
        obtain ⟨v9, hb4, hb4', hle, e9⟩ := id hI4
        rw [e9] at hb4
        have hI5 : InI (· = v0) w5 p l X.2.2.2 := ⟨_, hk5.blk hb4 (.inl rfl), Sl.of_own ho5, hle, rfl⟩
        have hz5 := hk5.1
        have hof5 := offOf_in hI5
        clear hy hR f4 f5 hI4 ho4 hb4 hb4' e9
        by_cases he : X.2.1 = 0
        · have ho := oneR_ok l k hkl (by rw [← HX.out]; exact he)
          rw [← HX.out] at ho
          have h3 := ho.2.2.1
          have HE := Lib.hid he
          rw [he] at s0
          replace s0 : w5.cell? ⟨w3.heap.size + 1, 0, none⟩ = some (.int .i64 0) := s0
          clear ho he
          gi_wp2
          refine ⟨⟨X.2.2.2, pre ++ [(k, .slice a1 n1 c1)], by rw [nextF_snoc]; simp only [← HX.out], hle, ?_, hJ5, hI5, ho5, by omega⟩, ?_⟩
          · intro x hx
            rcases List.mem_append.1 hx with hx | hx
            · exact hgd x hx
            · obtain rfl := List.mem_singleton.1 hx
              simp only [← HX.out]; exact HE.out
          · rw [hof5, HOFF.out]; omega
        · have hne : ((X.2.1 : Int) != 0) = true := by simp; omega
          have HE := Lib.hid he
          clear he hof5
          gi_wp2
          rw [Exit.noGoto_normal]
          go_end0
          exact ⟨⟨_, rfl⟩, .inl ⟨_, .inr (fun h => HE.out (by have := h (k, .slice a1 n1 c1) (by simp); simpa only [← HX.out] using this)), hJ5⟩⟩
      · clear hy hR
        gi_wp2
        rw [Exit.noGoto_normal]
        go_end0
        exact ⟨⟨_, rfl⟩, .inr ⟨_, trivial, hJx5⟩⟩
    · obtain rfl : k = l.length := by omega
      gi_wp2
      rw [Exit.noGoto_normal]
      go_end0
      exact ⟨⟨_, rfl⟩, .inl ⟨pre, .inl (by rw [← HKN.out]; exact Nat.le_refl _), hJ2⟩⟩
end Go.Proofs.Ytgoaijpckckdnaa
