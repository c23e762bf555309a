/- resync.All, Ended, Passed, Whole and rescriptref14.Whole, Same. -/
import Derived.Test.YthjfgefkahgenaaFrF
namespace Go.Proofs.Ythjfgefkahgenaa
open Go Go.RowKit Go.Shelf

theorem all_any (l : List UInt8) (v : Value) (w : World) (hb : Bs w v l) (hlen : l.length ≤ 1000000000) :
    Calls Try.prog 15 #[v] w fun e w' => ∃ v', e = .returned (.tuple #[v', .int .i64 (walkL false l 0).2.2]) ∧ FOs w' w.heap.size v' (walkL false l 0).1 ∧ Grew w w' := by
  have k := walk_any l false v w hb hlen
  obtain ⟨a, n, c, rfl, hn⟩ := bs_shape hb
  generalize (walkL false l 0).1 = A at k ⊢
  generalize (walkL false l 0).2.1 = B at k
  generalize (walkL false l 0).2.2 = C at k ⊢
  have K := Lib.hid k
  clear k hb
  go_enter Try.func15, Try.ntmps15
  go_wp2_with fail
  refine K.out.mono ?_
  rintro e w1 ⟨v1, rfl, h1, g1⟩
  go_wp2
  go_ret2
  exact ⟨_, rfl, h1, g1⟩
theorem ended_any (l : List UInt8) (v : Value) (w : World) (hb : Bs w v l) (hlen : l.length ≤ 1000000000) :
    Calls Try.prog 39 #[v] w fun e w' => ∃ v', e = .returned v' ∧ FOs w' w.heap.size v' (walkL true l 0).1 ∧ Grew w w' := by
  have k := walk_any l true v w hb hlen
  obtain ⟨a, n, c, rfl, hn⟩ := bs_shape hb
  generalize (walkL true l 0).1 = A at k ⊢
  generalize (walkL true l 0).2.1 = B at k
  generalize (walkL true l 0).2.2 = C at k
  have K := Lib.hid k
  clear k hb
  go_enter Try.func39, Try.ntmps39
  go_wp2_with fail
  refine K.out.mono ?_
  rintro e w1 ⟨v1, rfl, h1, g1⟩
  go_wp2
  go_ret
  exact ⟨_, rfl, h1, g1⟩
theorem passed_any (l : List UInt8) (v : Value) (w : World) (hb : Bs w v l) (hlen : l.length ≤ 1000000000) :
    Calls Try.prog 38 #[v] w fun e w' => e = .returned (.int .i64 (walkL false l 0).2.1) ∧ Grew w w' := by
  have k := walk_any l false v w hb hlen
  obtain ⟨a, n, c, rfl, hn⟩ := bs_shape hb
  generalize (walkL false l 0).1 = A at k
  generalize (walkL false l 0).2.1 = B at k ⊢
  generalize (walkL false l 0).2.2 = C at k
  have K := Lib.hid k
  clear k hb
  go_enter Try.func38, Try.ntmps38
  go_wp2_with fail
  refine K.out.mono ?_
  rintro e w1 ⟨v1, rfl, h1, g1⟩
  go_wp2
  go_ret
  exact ⟨rfl, g1⟩
/-- numbers as cells -/
def iv (l : List Nat) : List Value := l.map fun n => .int .i64 (n : Nat)
theorem iv_length (l : List Nat) : (iv l).length = l.length := by simp [iv]
theorem iv_get (l : List Nat) (j : Nat) (h : j < l.length) : (iv l)[j]? = some (.int .i64 (l[j] : Nat)) := by simp [iv, h]
abbrev OwnI (w : World) (base : Nat) (v : Value) (l : List Nat) : Prop := w.ownsRow base 3 1 v l.length (iv l)
theorem info_int : (Try.prog.info? 3).map (fun i => (i.zero, i.size, i.bytes)) = some (some (.int .i64 0), 1, 8) := by kernel_rfl
theorem wpList_pushI {W : World} {ops : Array Oper} {rest : List Oper} {o : Oper} {a : Act} {Q : Exit → Act → World → Prop} (hgd : o.guard = none) (s x : Operand)
    (ho : o.op = .call { callee := .builtin .append, args := #[s, x], argTypes := #[41, 41] })
    (base : Nat) (v : Value) (l : List Nat) (hs : a.eval s = v) (hown : OwnI W base v l) (xv : Value) (hx : a.eval x = xv) (m : Nat) (hsl : Sl W xv 1 1 [.int .i64 m])
    (hlen : l.length + 1 ≤ 1000000000000) (hbase : base ≤ W.heap.size)
    (h : ∀ v' w', OwnI w' base v' (l ++ [m]) → Below base W w' → W.grownBy w' v.ownBlock → wpList Try.prog ops Q rest (a.put o.dst v') w') : wpList Try.prog ops Q (o :: rest) a W := by
  obtain ⟨i0, hi, hz0, hz1, hz2⟩ := info_parts info_int
  exact wpList_app hgd s x 41 ho base 3 i0 (.int .i64 0) 1 8 Try.underlying41 hi hz0 hz1 hz2 rfl (by decide) v l.length (iv l) hs hown xv 1 [.int .i64 m] hx hsl (by intro u hu; simp at hu; subst hu; rfl) (by unfold maxLen; omega) (by omega) hbase
    fun v' w' h1 h2 => h v' w' (by rw [OwnI, List.length_append]; simpa [iv] using h1) (grownBy_below h2 hown hbase) h2

/-- the places below k at which frames stand -/
def wholeN (l : List UInt8) (k : Nat) : List Nat := (List.range k).filter fun i => ferr (l.drop i) == 0
theorem wholeN_yes (l : List UInt8) (k : Nat) (h : ferr (l.drop k) = 0) : wholeN l (k + 1) = wholeN l k ++ [k] := by simp [wholeN, List.range_succ, h]
theorem wholeN_no (l : List UInt8) (k : Nat) (h : ferr (l.drop k) ≠ 0) : wholeN l (k + 1) = wholeN l k := by simp [wholeN, List.range_succ, h]
theorem wholeN_le (l : List UInt8) (k : Nat) : (wholeN l k).length ≤ k := by
  have := List.length_filter_le (fun i => ferr (l.drop i) == 0) (List.range k); simpa [wholeN] using this
set_option maxRecDepth 100000 in
set_option maxHeartbeats 1000000 in
theorem whole_any (l : List UInt8) (v : Value) (w : World) (hb : Bs w v l) (hlen : l.length ≤ 1000000000) :
    Calls Try.prog 35 #[v] w fun e w' => ∃ v', e = .returned v' ∧ OwnI w' w.heap.size v' (wholeN l l.length) ∧ Grew w w' := by
  obtain ⟨a, c, rfl, h1, h2, -, h4⟩ := hb.open
  unfold maxLen at h2
  have HB := Lib.hid hb
  have H4 := Lib.hid h4
  clear hb h4
  go_enter Try.func35, Try.ntmps35
  go_wp2
  go_loopw [3, 10] (fun vo i wr => ∃ k : Nat, k ≤ l.length ∧ i = .int .i64 k ∧ OwnI wr w.heap.size vo (wholeN l k) ∧ Grew w wr) (fun _ i _ => l.length - (intOf i).toNat)
  case atStart => exact ⟨0, Nat.zero_le _, rfl, World.ownsRow_nil _ _ _ _, Below.refl _ _⟩
  case round =>
    obtain ⟨k, hk, rfl, hown, hG⟩ := hrel
    by_cases hlt : k < l.length
    · obtain ⟨b, o, rfl, -⟩ := H4.out (by omega)
      have hz : ¬ c = k := by omega
      have kr := fread_any (l.drop k) _ _ (bs_drop (HB.out.grew hG) k (by omega)) (by simp; omega)
      rw [fread_err] at kr
      generalize (fread (l.drop k)).1.1 = T at kr
      generalize (fread (l.drop k)).2.1 = N at kr
      obtain ⟨E, hE⟩ : ∃ E, E = ferr (l.drop k) := ⟨_, rfl⟩
      rw [← hE] at kr
      have KR := Lib.hid kr
      have HO := Lib.hid hown
      have hle := wholeN_le l k
      clear kr hown
      go_wp2_with fail
      refine KR.out.mono ?_
      rintro e w1 ⟨v1, rfl, hp1, g1⟩
      obtain ⟨a1, n1, c1, rfl, hn1⟩ := hp1.shape
      have G1 := hG.trans g1
      clear hp1
      by_cases he : E = 0
      · have hw := wholeN_yes l k (by rw [← hE]; exact he)
        subst he
        have HW := Lib.hid hw
        clear hw hE
        have gA := grew_alloc w1 (.cells #[.int .u8 (T.toNat : Int), .slice a1 n1 c1] 33)
        have gB := grew_alloc (w1.alloc (.cells #[.int .u8 (T.toNat : Int), .slice a1 n1 c1] 33)) (.cells #[.int .i64 k] 3)
        have GB := (G1.trans gA).trans gB
        have hOB := ((HO.out |> fun h => own_grew h g1) |> fun h => own_grew h gA) |> fun h => own_grew h gB
        have hsl : Sl ((w1.alloc (.cells #[.int .u8 (T.toNat : Int), .slice a1 n1 c1] 33)).alloc (.cells #[.int .i64 k] 3)) (.slice (some ⟨w1.heap.size + 1, 0, none⟩) 1 1) 1 1 [.int .i64 k] := by
          have := Sl.lit (w1.alloc (.cells #[.int .u8 (T.toNat : Int), .slice a1 n1 c1] 33)) 3 (0, 0) #[.int .i64 k] 1 1 rfl (by unfold maxLen; omega)
          rw [World.size_alloc] at this; exact this
        have HOB := Lib.hid hOB
        have HSL := Lib.hid hsl
        clear hOB hsl
        go_wp2_with (at_builtin; refine wpList_pushI rfl _ _ rfl w.heap.size _ (wholeN l k) rfl HOB.out _ rfl k HSL.out (by omega) GB.size ?_; intro v' w2 hown2 hB2 _)
        go_roundw
        case rel => exact ⟨k + 1, by omega, by go_num, by rw [HW.out]; exact hown2, Below.trans GB hB2⟩
        case measure => simp [intOf]; omega
      · have hw := wholeN_no l k (by rw [← hE]; exact he)
        have HW := Lib.hid hw
        have hne : ((E : Int) == 0) = false := by simp; omega
        clear hw hE he
        have gA := grew_alloc w1 (.cells #[.int .u8 (T.toNat : Int), .slice a1 n1 c1] 33)
        go_wp2
        go_roundw
        case rel => exact ⟨k + 1, by omega, by go_num, by rw [HW.out]; exact own_grew (own_grew HO.out g1) gA, G1.trans gA⟩
        case measure => simp [intOf]; omega
    · obtain rfl : k = l.length := by omega
      have HO := Lib.hid hown
      clear hown
      go_wp2
      go_ret
      exact ⟨_, rfl, HO.out, hG⟩
end Go.Proofs.Ythjfgefkahgenaa
