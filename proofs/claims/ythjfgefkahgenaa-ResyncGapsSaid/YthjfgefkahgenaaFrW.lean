/- Rows of frames that were found, and rescriptref14.Walk, Whole. -/
import Derived.Test.YthjfgefkahgenaaFrS
namespace Go.Proofs.Ythjfgefkahgenaa
open Go Go.RowKit Go.Shelf

/-- a frame that was found, and its payload's slice value -/
abbrev FV := Fnd × Value
def fdv (p : FV) : List Value := [.int .i64 (p.1.1 : Nat), .int .u8 (p.1.2.1.toNat : Int), p.2]
/-- a row of the call's own of frames that were found -/
def FoundsV (W : World) (base : Nat) (v : Value) (ps : List FV) : Prop := W.ownsRow base 35 3 v ps.length (ps.flatMap fdv) ∧ ∀ p ∈ ps, PayV W base p.2 p.1.2.2
theorem FoundsV.nil (W : World) (base : Nat) : FoundsV W base (.slice none 0 0) [] := ⟨World.ownsRow_nil _ _ _ _, fun p h => by cases h⟩
theorem FoundsV.grew {W W' : World} {base : Nat} {v : Value} {ps : List FV} (h : FoundsV W base v ps) (g : Grew W W') : FoundsV W' base v ps := ⟨own_grew h.1 g, fun p hp => (h.2 p hp).grew g⟩
theorem FoundsV.mono {W : World} {base base' : Nat} {v : Value} {ps : List FV} (h : FoundsV W base v ps) (hb : base' ≤ base) : FoundsV W base' v ps := ⟨own_mono h.1 hb, fun p hp => (h.2 p hp).mono hb⟩
/-- the frames alone -/
def FOs (W : World) (base : Nat) (v : Value) (fs : List Fnd) : Prop := ∃ ps : List FV, ps.map (·.1) = fs ∧ FoundsV W base v ps
theorem FOs.grew {W W' : World} {base : Nat} {v : Value} {fs : List Fnd} (h : FOs W base v fs) (g : Grew W W') : FOs W' base v fs := by obtain ⟨ps, e, h⟩ := h; exact ⟨ps, e, h.grew g⟩
theorem FOs.mono {W : World} {base base' : Nat} {v : Value} {fs : List Fnd} (h : FOs W base v fs) (hb : base' ≤ base) : FOs W base' v fs := by obtain ⟨ps, e, h⟩ := h; exact ⟨ps, e, h.mono hb⟩
theorem PayV.shape {W : World} {base : Nat} {v : Value} {l : List UInt8} (h : PayV W base v l) : ∃ a n c, v = .slice a n c ∧ RowKit.Hid (n = l.length) := bs_shape h.1
theorem PayV.below {n : Nat} {W W' : World} {base : Nat} {v : Value} {l : List UInt8} (h : PayV W base v l) {row : Option Nat} (hg : W.grownBy W' row) (hs : ∀ g, Value.blk v = some g → some g ≠ row) : PayV W' base v l :=
  h.fr (S := fun k => row = some k) (Fr.of_grown hg fun k e => e) fun g hg e => hs g hg e.symm
theorem info_found : (Try.prog.info? 35).map (fun i => (i.zero, i.size, i.bytes)) = some (some (.agg #[.int .i64 0, .int .u8 0, .slice none 0 0]), 3, 40) := by kernel_rfl
theorem row_ne {W : World} {base : Nat} {e : TypeId} {size : Nat} {v : Value} {n : Nat} {xs : List Value} (h : W.ownsRow base e size v n xs) (he : e ≠ 5) {base' : Nat} {u : Value} {l : List UInt8} (hp : PayV W base' u l) : ∀ g, Value.blk u = some g → some g ≠ v.ownBlock := by
  intro g hg e'
  rcases h.2 with ⟨rfl, _⟩ | ⟨g', cap, cur, rfl, _, hgb, _⟩
  · cases e'
  · obtain rfl : g = g' := by simpa [Value.ownBlock] using e'
    obtain ⟨_, cs, hc⟩ := hp.2 g hg
    exact he (blk_type hgb hc)
theorem fdv_one (p : FV) {W : World} {base : Nat} {l : List UInt8} (hp : PayV W base p.2 l) : ∀ u ∈ fdv p, u.oneCell' = true := by
  obtain ⟨a, n, c, e, _⟩ := hp.shape
  intro u hu
  simp only [fdv, List.mem_cons, List.not_mem_nil, or_false] at hu
  rcases hu with rfl | rfl | rfl
  · rfl
  · rfl
  · rw [e]; rfl
theorem FoundsV.push {W w' : World} {base : Nat} {v v' : Value} {ps : List FV} {p : FV} (h : FoundsV W base v ps) (hp : PayV W base p.2 p.1.2.2)
    (h1 : w'.ownsRow base 35 3 v' (ps.length + 1) (ps.flatMap fdv ++ fdv p)) (h2 : W.grownBy w' v.ownBlock) : FoundsV w' base v' (ps ++ [p]) := by
  refine ⟨by rw [List.length_append, List.flatMap_append]; simpa using h1, fun q hq => ?_⟩
  rcases List.mem_append.1 hq with hq | hq
  · exact (h.2 q hq).below (n := 0) h2 (row_ne h.1 (by decide) (h.2 q hq))
  · obtain rfl := List.mem_singleton.1 hq
    exact hp.below (n := 0) h2 (row_ne h.1 (by decide) hp)
theorem wpList_pushF {W : World} {ops : Array Oper} {rest : List Oper} {o : Oper} {a : Act} {Q : Exit → Act → World → Prop} (hgd : o.guard = none) (s x : Operand)
    (ho : o.op = .call { callee := .builtin .append, args := #[s, x], argTypes := #[29, 29] })
    (base : Nat) (v : Value) (ps : List FV) (hs : a.eval s = v) (hown : FoundsV W base v ps) (xv : Value) (hx : a.eval x = xv) (p : FV) (hsl : Sl W xv 1 3 (fdv p)) (hp : PayV W base p.2 p.1.2.2)
    (hlen : ps.length + 1 ≤ 1000000000) (hbase : base ≤ W.heap.size)
    (h : ∀ v' w', FoundsV w' base v' (ps ++ [p]) → Below base W w' → W.grownBy w' v.ownBlock → wpList Try.prog ops Q rest (a.put o.dst v') w') : wpList Try.prog ops Q (o :: rest) a W := by
  obtain ⟨i0, hi, hz0, hz1, hz2⟩ := info_parts info_found
  exact wpList_app hgd s x 29 ho base 35 i0 (.agg #[.int .i64 0, .int .u8 0, .slice none 0 0]) 3 40 Try.underlying29 hi hz0 hz1 hz2 rfl (by decide) v ps.length _ hs hown.1 xv 1 (fdv p) hx hsl (fdv_one p hp) (by unfold maxLen; omega) (by omega) hbase
    fun v' w' h1 h2 => h v' w' (hown.push hp h1 h2) (grownBy_below h2 hown.1 hbase) h2
theorem wpListIn_pushF {F : Fence} {n : Nat} {W : World} {ops : Array Oper} {rest : List Oper} {o : Oper} {a : Act} {Q : Exit → Act → World → Prop} (hgd : o.guard = none) (s x : Operand)
    (ho : o.op = .call { callee := .builtin .append, args := #[s, x], argTypes := #[29, 29] })
    (base : Nat) (v : Value) (ps : List FV) (hs : a.eval s = v) (hown : FoundsV W base v ps) (xv : Value) (hx : a.eval x = xv) (p : FV) (hsl : Sl W xv 1 3 (fdv p)) (hp : PayV W base p.2 p.1.2.2)
    (hlen : ps.length + 1 ≤ 1000000000) (hbase : base ≤ W.heap.size)
    (h : ∀ v' w', FoundsV w' base v' (ps ++ [p]) → Below base W w' → W.grownBy w' v.ownBlock → wpListIn F n Try.prog ops Q rest (a.put o.dst v') w') : wpListIn F n Try.prog ops Q (o :: rest) a W := by
  obtain ⟨i0, hi, hz0, hz1, hz2⟩ := info_parts info_found
  exact wpListIn_app hgd s x 29 ho base 35 i0 (.agg #[.int .i64 0, .int .u8 0, .slice none 0 0]) 3 40 Try.underlying29 hi hz0 hz1 hz2 rfl (by decide) v ps.length _ hs hown.1 xv 1 (fdv p) hx hsl (fdv_one p hp) (by unfold maxLen; omega) (by omega) hbase
    fun v' w' h1 h2 => h v' w' (hown.push hp h1 h2) (grownBy_below h2 hown.1 hbase) h2
theorem fread_ok {l : List UInt8} (h : ferr l = 0) : fread l = (fof l, flen l + 9, 0) := by unfold fread; rw [if_pos h]
theorem fread_err (l : List UInt8) : (fread l).2.2 = ferr l := by
  unfold fread; split
  · rename_i h; exact h.symm
  · rfl

set_option maxRecDepth 100000 in
set_option maxHeartbeats 2000000 in
theorem r14walk_any (l : List UInt8) (ended : Bool) (v : Value) (w : World) (hb : Bs w v l) (hlen : l.length ≤ 1000000000) :
    Calls Try.prog 44 #[v, .bool ended] w fun e w' => ∃ v', e = .returned (.tuple #[v', .int .i64 (walkL ended l 0).2.1, .int .i64 (walkL ended l 0).2.2]) ∧ FOs w' w.heap.size v' (walkL ended l 0).1 ∧ Grew w w' := by
  obtain ⟨R, hR⟩ : ∃ R, R = walkL ended l 0 := ⟨_, rfl⟩
  rw [← hR]
  obtain ⟨a, c, rfl, h1, h2, -, h4⟩ := hb.open
  unfold maxLen at h2
  have HB := Lib.hid hb
  have H4 := Lib.hid h4
  have HR := Lib.hid hR
  clear hb h4 hR
  go_enter Try.func44, Try.ntmps44
  go_wp2
  go_loopw [7, 8, 9] (fun vo i pa wr => ∃ (k P : Nat) (ps : List FV), k ≤ l.length ∧ P ≤ k ∧ ps.length ≤ k ∧ i = .int .i64 k ∧ pa = .int .i64 P ∧ FoundsV wr w.heap.size vo ps ∧ Grew w wr ∧
    RowKit.Hid (R = (ps.map (·.1) ++ (walkL ended (l.drop k) k).1, P + (walkL ended (l.drop k) k).2.1, (walkL ended (l.drop k) k).2.2))) (fun _ i _ _ => l.length - (intOf i).toNat)
  case atStart => exact ⟨0, 0, [], Nat.zero_le _, Nat.le_refl _, Nat.le_refl _, rfl, rfl, FoundsV.nil _ _, Below.refl _ _, by rw [List.drop_zero, Nat.zero_add, List.map_nil, List.nil_append]; exact HR.out⟩
  case round =>
    obtain ⟨k, P, ps, hk, hP, hpl, rfl, rfl, hown, hG, hI⟩ := hrel
    by_cases hlt : k < l.length
    · obtain ⟨b, o, rfl, -⟩ := H4.out (by omega)
      have hz : ¬ c = k := by omega
      have hbd := bs_drop (HB.out.grew hG) k (by omega)
      have hkl : (l.drop k).length = l.length - k := List.length_drop
      obtain ⟨D, hD⟩ : ∃ D, D = l.drop k := ⟨_, rfl⟩
      rw [← hD] at hbd hI hkl
      have kr := r13read_any D _ _ hbd (by omega)
      have KR := Lib.hid kr
      have HD := Lib.hid hD
      have HDl := Lib.hid hkl
      have hDne : D ≠ [] := by intro e; rw [e] at hkl; simp at hkl; omega
      clear kr hD hkl hbd
      go_wp2_with fail
      refine KR.out.mono ?_
      rw [fread_err]
      by_cases he : ferr D = 0
      · have hz0 := ferr_zero he
        rw [fread_ok he]
        rintro e w1 ⟨v1, rfl, hp1, g1⟩
        obtain ⟨a1, n1, c1, rfl, hn1⟩ := hp1.shape
        have hF : (flen D + 9 : Nat) ≤ l.length - k := by have := HDl.out; omega
        simp only [he] at hp1 ⊢
        rw [walkL_ok k he] at hI
        obtain ⟨F, hFF⟩ : ∃ F, F = flen D := ⟨_, rfl⟩
        rw [← hFF] at hI hF ⊢
        obtain ⟨f, hff⟩ : ∃ f, f = fof D := ⟨_, rfl⟩
        rw [← hff] at hI hp1 ⊢
        have HI := Lib.hid hI
        have HZ := Lib.hid hz0
        have HE := Lib.hid he
        have HFf := Lib.hid hff
        have hgA : Grew w1 ((w1.alloc (.cells #[.int .u8 (f.1.toNat : Int), .slice a1 n1 c1] 33)).alloc (.cells #[.int .i64 (k : Nat), .int .u8 (f.1.toNat : Int), .slice a1 n1 c1] 35)) := (grew_alloc _ _).trans (grew_alloc _ _)
        have hownA := hown.grew (g1.trans hgA)
        have hpA : PayV _ w.heap.size (.slice a1 n1 c1) f.2 := (hp1.grew hgA).mono hG.size
        have hslA : Sl ((w1.alloc (.cells #[.int .u8 (f.1.toNat : Int), .slice a1 n1 c1] 33)).alloc (.cells #[.int .i64 (k : Nat), .int .u8 (f.1.toNat : Int), .slice a1 n1 c1] 35)) (.slice (some ⟨w1.heap.size + 1, 0, none⟩) 1 1) 1 3 (fdv ((k, f), .slice a1 n1 c1)) := by
          have := Sl.lit (w1.alloc (.cells #[.int .u8 (f.1.toNat : Int), .slice a1 n1 c1] 33)) 35 (0, 0) #[.int .i64 (k : Nat), .int .u8 (f.1.toNat : Int), .slice a1 n1 c1] 1 3 rfl (by unfold maxLen; omega)
          rw [World.size_alloc] at this; exact this
        have hGA : Grew w _ := (hG.trans g1).trans hgA
        have HO := Lib.hid hownA
        have HP := Lib.hid hpA
        have HS := Lib.hid hslA
        clear hI hz0 he hFF hff hDne hown hownA hpA hslA hp1
        go_wp2_with (at_builtin; refine wpList_pushF rfl _ _ rfl w.heap.size _ ps rfl HO.out _ rfl ((k, f), .slice a1 n1 c1) HS.out HP.out (by omega) hGA.size ?_; intro v' w2 hown2 hB2 _)
        go_roundw
        case rel => exact ⟨k + (F + 9), P, ps ++ [((k, f), .slice a1 n1 c1)], by omega, by omega, by simp; omega, by go_num, rfl, hown2, Below.trans hGA hB2, by
          show R = _
          rw [HI.out, HD.out]; simp [List.drop_drop]⟩
        case measure => simp [intOf]; omega
      · have hne : ((ferr D : Int) == 0) = false := by simp; omega
        by_cases h4 : ferr D = 4 ∧ ended = false
        · obtain ⟨h4, rfl⟩ := h4
          have hw : walkL false D k = ([], 0, k) := walkL_short k h4
          rw [hw] at hI
          simp only [h4]
          have hfr : fread D = ((0, []), 0, 4) := fread_fail h4 (by omega)
          rw [hfr]
          rintro e w1 ⟨v1, rfl, hp1, g1⟩
          obtain ⟨a1, n1, c1, rfl, hn1⟩ := hp1.shape
          have HI := Lib.hid hI
          have HO := Lib.hid hown
          clear hI hne h4 hw he hfr hp1 hDne hown
          go_wp2
          go_ret3
          have hgA : Grew w1 (w1.alloc (.cells #[.int .u8 0, .slice a1 n1 c1] 33)) := grew_alloc _ _
          refine ⟨_, by rw [HI.out.out]; rfl, ?_, (hG.trans g1).trans hgA⟩
          rw [HI.out.out, List.append_nil]; exact ⟨ps, rfl, (HO.out.grew g1).grew hgA⟩
        · have hw := walkL_pass (ended := ended) k hDne he (fun h => by cases ended with
            | true => rfl
            | false => exact absurd ⟨h, rfl⟩ h4)
          have hd1 : D.drop 1 = l.drop (k + 1) := by rw [HD.out, List.drop_drop]
          rw [hw, hd1] at hI
          have hfr : fread D = ((0, []), 0, ferr D) := fread_fail rfl he
          have hq : ((ferr D : Int) == 4 && !ended) = false := by
            cases ended with
            | true => simp
            | false => simp; intro h; exact h4 ⟨by omega, rfl⟩
          obtain ⟨E, hE⟩ : ∃ E, E = ferr D := ⟨_, rfl⟩
          rw [hfr]
          rw [← hE] at hne hq ⊢
          rintro e w1 ⟨v1, rfl, hp1, g1⟩
          obtain ⟨a1, n1, c1, rfl, hn1⟩ := hp1.shape
          have HI := Lib.hid hI
          have hgA : Grew w1 (w1.alloc (.cells #[.int .u8 ((0 : UInt8).toNat : Int), .slice a1 n1 c1] 33)) := grew_alloc _ _
          have HO := Lib.hid ((hown.grew g1).grew hgA)
          have hG1 := (hG.trans g1).trans hgA
          clear hI h4 hw he hfr hp1 hDne hown hd1 hE
          cases h4 : ((E : Int) == 4) with
          | false =>
            clear hq
            go_wp2
            go_roundw
            case rel => exact ⟨k + 1, P + 1, ps, by omega, by omega, by omega, by go_num, by go_num, HO.out, hG1, by
              show R = _
              rw [HI.out.out]; simp; omega⟩
            case measure => simp [intOf]; omega
          | true =>
            obtain rfl : ended = true := by rw [h4] at hq; simpa using hq
            clear hq
            go_wp2
            go_roundw
            case rel => exact ⟨k + 1, P + 1, ps, by omega, by omega, by omega, by go_num, by go_num, HO.out, hG1, by
              show R = _
              rw [HI.out.out]; simp; omega⟩
            case measure => simp [intOf]; omega
    · obtain rfl : k = l.length := by omega
      rw [List.drop_of_length_le (Nat.le_refl _), walkL_nil] at hI
      have HO := Lib.hid hown
      clear hown
      go_wp2
      go_ret3
      refine ⟨_, by rw [hI.out]; rfl, ?_, hG⟩
      rw [hI.out, List.append_nil]; exact ⟨ps, rfl, HO.out⟩
end Go.Proofs.Ythjfgefkahgenaa
