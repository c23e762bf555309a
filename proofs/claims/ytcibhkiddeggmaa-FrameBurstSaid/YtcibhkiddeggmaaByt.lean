/- Contracts of the small functions on byte slices: rescriptref01.Same, rescriptref01.Join, bytes.Clone, bytes.Equal. -/
import Derived.Test.YtcibhkiddeggmaaKit
import Derived.Test.YtcibhkiddeggmaaRows
namespace Go.Proofs.Ytcibhkiddeggmaa
open Go Go.RowKit Go.Shelf

/-- bytes as cells -/
def bv (l : List UInt8) : List Value := l.map fun x => .int .u8 (x.toNat : Int)
@[simp] theorem bv_length (l : List UInt8) : (bv l).length = l.length := by simp [bv]
theorem bv_get (l : List UInt8) (j : Nat) (h : j < l.length) : (bv l)[j]? = some (.int .u8 (l[j].toNat : Int)) := by simp [bv, h]
theorem bv_append (a b : List UInt8) : bv (a ++ b) = bv a ++ bv b := by simp [bv]
theorem bv_one (l : List UInt8) : ∀ u ∈ bv l, u.oneCell' = true := by
  intro u hu; obtain ⟨_, _, rfl⟩ := List.mem_map.1 hu; rfl
theorem u8lt (x : UInt8) : (x.toNat : Int) < 256 := by have := x.toNat_lt; omega

/-- the slice value reads as these bytes -/
abbrev Bs (w : World) (v : Value) (l : List UInt8) : Prop := Sl w v l.length 1 (bv l)
/-- a row of bytes of the call's own -/
abbrev OwnB (w : World) (base : Nat) (v : Value) (l : List UInt8) : Prop := w.ownsRow base 5 1 v l.length (bv l)

theorem bs_take {w : World} {a : Option Addr} {c : Nat} {l : List UInt8} (h : Bs w (.slice a l.length c) l) (m : Nat) (hm : m ≤ l.length) : Bs w (.slice a m c) (l.take m) := by
  have := Sl.take h m hm
  unfold Bs
  rw [List.length_take, Nat.min_eq_left hm]
  rw [Nat.mul_one] at this
  have e : (bv l).take m = bv (l.take m) := by simp [bv]
  rw [← e]; exact this
theorem info_u8 : (Try.prog.info? 5).map (fun i => (i.zero, i.size, i.bytes)) = some (some (.int .u8 0), 1, 1) := by kernel_rfl

theorem u8_ne (x y : UInt8) : ((x.toNat : Int) != (y.toNat : Int)) = (x != y) := by
  by_cases h : x = y
  · subst h; simp
  · have h' : x.toNat ≠ y.toNat := fun e => h (UInt8.toNat_inj.1 e)
    have h2 : ¬ ((x.toNat : Int) = (y.toNat : Int)) := by omega
    rw [bne_iff_ne.2 h, bne_iff_ne.2 h2]


theorem take_succ_eq {α : Type} [BEq α] [LawfulBEq α] (a b : List α) (k : Nat) (ha : k < a.length) (hb : k < b.length) (h : a.take k = b.take k) (e : a[k] = b[k]) : a.take (k + 1) = b.take (k + 1) := by
  rw [List.take_succ_eq_append_getElem ha, List.take_succ_eq_append_getElem hb, h, e]
theorem ne_of_get {α : Type} [DecidableEq α] (a b : List α) (k : Nat) (ha : k < a.length) (hb : k < b.length) (h : a[k] ≠ b[k]) : (a == b) = false := by
  rw [beq_eq_false_iff_ne]; intro e; subst e; exact h rfl
theorem ne_of_len {α : Type} [DecidableEq α] (a b : List α) (h : a.length ≠ b.length) : (a == b) = false := by
  rw [beq_eq_false_iff_ne]; intro e; subst e; exact h rfl


/-- a literal of bytes, as the walk lays it -/
theorem bs_lit (w : World) (l : List UInt8) (cs : Array Value) (n : Nat) (hn : l.length = n) (h : (bv l).toArray = cs) (hm : n ≤ 1000000000) (fr : Nat × Nat := (0, 0)) : Bs (w.alloc (.cells cs 5 fr)) (.slice (some ⟨w.heap.size, 0, none⟩) n n) l := by
  subst hn
  subst h
  have := Sl.lit w 5 fr (bv l).toArray l.length 1 (by simp) (by unfold maxLen; omega)
  exact this
theorem bs_len {w : World} {v : Value} {l : List UInt8} (h : Bs w v l) : ∃ a c, v = .slice a l.length c := by
  obtain ⟨a, c, h, _⟩ := h.open
  exact ⟨a, c, h⟩

set_option maxHeartbeats 400000 in
theorem same_any (a b : List UInt8) (va vb : Value) (w : World) (ha : Bs w va a) (hb : Bs w vb b) :
    Calls Try.prog 10 #[va, vb] w fun e w' => e = .returned (.bool (a == b)) ∧ Drew w w' := by
  obtain ⟨aa, ca, rfl, a1, a2, -, ah⟩ := ha.open
  obtain ⟨ab, cb, rfl, b1, b2, -, bh⟩ := hb.open
  unfold maxLen at a2 b2
  by_cases hlen : a.length = b.length
  · have hl1 : ((a.length : Int) != (b.length : Int)) = false := by simp [hlen]
    have hl2 : b.length ≤ a.length ∧ a.length ≤ b.length := by omega
    have HL := Lib.hid hlen
    clear hlen
    go_enter Try.func10, Try.ntmps10
    go_wp2
    go_loopw [5] (fun i wr => (∃ k : Nat, k ≤ a.length ∧ i = .int .i64 k ∧ a.take k = b.take k) ∧ Drew w wr) (fun i _ => a.length - (intOf i).toNat)
    case atStart => exact ⟨⟨0, Nat.zero_le _, rfl, rfl⟩, 0, rfl⟩
    case round =>
      obtain ⟨⟨k, hk, rfl, htk⟩, n, rfl⟩ := hrel
      by_cases hlt : k < a.length
      · obtain ⟨b1, o1, rfl, h1⟩ := ah (by omega)
        obtain ⟨b2, o2, rfl, h2⟩ := bh (by omega)
        have c1 := h1 k _ (bv_get a k hlt)
        have c2 := h2 k _ (bv_get b k (by omega))
        have hn := u8_ne a[k] b[k]
        clear h1 h2 ah bh
        have HT := Lib.hid htk
        clear htk
        go_wp2
        go_quiet (fail)
        go_wp2
        · rename_i hne
          go_ret
          exact ⟨ret_bool (ne_of_get a b k hlt (by omega) (by simpa using hne)).symm, Drew.more ⟨_, rfl⟩ _⟩
        · rename_i hne
          go_roundw
          case rel => exact ⟨⟨k + 1, by omega, by go_num, take_succ_eq a b k hlt (by omega) HT.out (by simpa using hne)⟩, ⟨_, rfl⟩⟩
          case measure => simp [intOf]; omega
      · obtain rfl : k = a.length := by omega
        have HT := Lib.hid htk
        clear htk
        go_wp2
        go_ret
        have : a = b := by have h := HT.out; rwa [List.take_length, List.take_of_length_le (by omega)] at h
        exact ⟨ret_bool (by subst this; simp), _, rfl⟩
  · have hl1 : ((a.length : Int) != (b.length : Int)) = true := by simp; omega
    have HL := Lib.hid hlen
    clear hlen ah bh
    go_enter Try.func10, Try.ntmps10
    go_wp2
    go_ret
    exact ⟨ret_bool (ne_of_len a b HL.out).symm, 0, rfl⟩

/-- one byte more, from a new block -/
theorem wpList_push {W : World} {ops : Array Oper} {rest : List Oper} {o : Oper} {a : Act} {Q : Exit → Act → World → Prop} (hgd : o.guard = none) (s x : Operand)
    (ho : o.op = .call { callee := .builtin .append, args := #[s, x], argTypes := #[22, 22] })
    (base : Nat) (v : Value) (l : List UInt8) (hs : a.eval s = v) (hown : OwnB W base v l) (xv : Value) (hx : a.eval x = xv) (m : List UInt8) (hsl : Bs W xv m)
    (hlen : l.length + m.length ≤ 140737488355328) (hbase : base ≤ W.heap.size)
    (h : ∀ v' w', OwnB w' base v' (l ++ m) → Below base W w' → W.grownBy w' v.ownBlock → wpList Try.prog ops Q rest (a.put o.dst v') w') : wpList Try.prog ops Q (o :: rest) a W := by
  obtain ⟨i0, hi, hz0, hz1, hz2⟩ := info_parts info_u8
  exact wpList_app hgd s x 22 ho base 5 i0 (.int .u8 0) 1 1 Try.underlying22 hi hz0 hz1 hz2 rfl (by decide) v l.length (bv l) hs hown xv m.length (bv m) hx hsl (bv_one m) (by unfold maxLen; omega) (by omega) hbase
    fun v' w' h1 h2 => h v' w' (by rw [OwnB, bv_append, List.length_append]; exact h1) (grownBy_below h2 hown hbase) h2

/-- .. within a fence -/
theorem wpListIn_push {F : Fence} {n : Nat} {W : World} {ops : Array Oper} {rest : List Oper} {o : Oper} {a : Act} {Q : Exit → Act → World → Prop} (hgd : o.guard = none) (s x : Operand)
    (ho : o.op = .call { callee := .builtin .append, args := #[s, x], argTypes := #[22, 22] })
    (base : Nat) (v : Value) (l : List UInt8) (hs : a.eval s = v) (hown : OwnB W base v l) (xv : Value) (hx : a.eval x = xv) (m : List UInt8) (hsl : Bs W xv m)
    (hlen : l.length + m.length ≤ 140737488355328) (hbase : base ≤ W.heap.size)
    (h : ∀ v' w', OwnB w' base v' (l ++ m) → Below base W w' → W.grownBy w' v.ownBlock → wpListIn F n Try.prog ops Q rest (a.put o.dst v') w') : wpListIn F n Try.prog ops Q (o :: rest) a W := by
  obtain ⟨i0, hi, hz0, hz1, hz2⟩ := info_parts info_u8
  exact wpListIn_app hgd s x 22 ho base 5 i0 (.int .u8 0) 1 1 Try.underlying22 hi hz0 hz1 hz2 rfl (by decide) v l.length (bv l) hs hown xv m.length (bv m) hx hsl (bv_one m) (by unfold maxLen; omega) (by omega) hbase
    fun v' w' h1 h2 => h v' w' (by rw [OwnB, bv_append, List.length_append]; exact h1) (grownBy_below h2 hown hbase) h2

theorem ownB_nil (w : World) (base : Nat) : OwnB w base (.slice none 0 0) [] := World.ownsRow_nil _ _ _ _

set_option maxHeartbeats 1000000 in
theorem join_any (a b : List UInt8) (va vb : Value) (w : World) (ha : Bs w va a) (hb : Bs w vb b) (hlen : a.length + b.length ≤ 140737488355328) :
    Calls Try.prog 29 #[va, vb] w fun e w' => ∃ v, e = .returned v ∧ OwnB w' w.heap.size v (a ++ b) ∧ Grew w w' := by
  obtain ⟨aa, ca, rfl, a1, a2, -, ah⟩ := ha.open
  obtain ⟨ab, cb, rfl, b1, b2, -, bh⟩ := hb.open
  go_enter Try.func29, Try.ntmps29
  go_wp2
  go_loopw [5, 6] (fun v i wr => ∃ k : Nat, k ≤ a.length ∧ i = .int .i64 k ∧ OwnB wr w.heap.size v (a.take k) ∧ Grew w wr) (fun _ i _ => a.length - (intOf i).toNat)
  case atStart => exact ⟨0, Nat.zero_le _, rfl, ownB_nil _ _, Below.refl _ _⟩
  case round =>
    obtain ⟨k, hk, rfl, hown, hB⟩ := hrel
    by_cases hlt : k < a.length
    · obtain ⟨b1, o1, rfl, h1⟩ := ah (by omega)
      have c1 := (below_ext hB) _ _ (h1 k _ (bv_get a k hlt))
      clear h1 ah bh
      go_wp2_with (at_builtin; refine wpList_push rfl _ _ rfl w.heap.size _ _ rfl (own_grew hown ((Below.refl _ _).alloc (Nat.le_refl _) _)) _ rfl [a[k]] (Sl.one _ _ _ rfl) (by simp; omega) (by have := hB.size; simp; omega) ?_; intro v' w1 hown1 hB1 _)
      go_roundw
      case rel => exact ⟨k + 1, by omega, by go_num, by rw [List.take_succ_eq_append_getElem hlt]; exact hown1, (hB.alloc hB.size _).trans hB1⟩
      case measure => simp [intOf]; omega
    · obtain rfl : k = a.length := by omega
      rw [List.take_length] at hown
      clear ah
      go_wp2
      go_loopw [5, 7] (fun v i wr => ∃ k : Nat, k ≤ b.length ∧ i = .int .i64 k ∧ OwnB wr w.heap.size v (a ++ b.take k) ∧ Grew w wr) (fun _ i _ => b.length - (intOf i).toNat)
      case atStart => exact ⟨0, Nat.zero_le _, rfl, by simpa using hown, hB⟩
      case round =>
        obtain ⟨k, hk, rfl, hown, hB⟩ := hrel
        by_cases hlt : k < b.length
        · obtain ⟨b1, o1, rfl, h1⟩ := bh (by omega)
          have c1 := (below_ext hB) _ _ (h1 k _ (bv_get b k hlt))
          clear h1 bh
          go_wp2_with (at_builtin; refine wpList_push rfl _ _ rfl w.heap.size _ _ rfl (own_grew hown ((Below.refl _ _).alloc (Nat.le_refl _) _)) _ rfl [b[k]] (Sl.one _ _ _ rfl) (by simp; omega) (by have := hB.size; simp; omega) ?_; intro v' w1 hown1 hB1 _)
          go_roundw
          case rel => exact ⟨k + 1, by omega, by go_num, by rw [List.take_succ_eq_append_getElem hlt, ← List.append_assoc]; exact hown1, (hB.alloc hB.size _).trans hB1⟩
          case measure => simp [intOf]; omega
        · obtain rfl : k = b.length := by omega
          rw [List.take_length] at hown
          go_wp2
          go_ret
          exact ⟨_, rfl, hown, hB⟩

/-- bytes.Clone: nil for nil, else a row of its own -/
theorem clone_any (a : List UInt8) (va : Value) (w : World) (ha : Bs w va a) (hlen : a.length ≤ 140737488355328) :
    Calls Try.prog 46 #[va] w fun e w' => ∃ v, e = .returned v ∧ OwnB w' w.heap.size v a ∧ Grew w w' := by
  have he := fun (w : World) (a : Option Addr) (n c : Nat) => Lib.run_eql_slice_nil (P := Try.prog) w 22 5 a n c 0 0 Try.underlying22
  rcases ha.shape with ⟨rfl, h0, h1⟩ | ⟨ad, cap, rfl, h1, h2, h3, h4⟩
  · obtain rfl : a = [] := List.eq_nil_of_length_eq_zero h0
    go_enter Try.func46, Try.ntmps46
    go_wp2
    go_ret
    exact ⟨_, rfl, ownB_nil _ _, Below.refl _ _⟩
  · clear h4
    go_enter Try.func46, Try.ntmps46
    go_wp2_with (at_builtin; refine wpList_push rfl _ _ rfl w.heap.size _ [] rfl (World.ownsRow_lit _ #[] 0 (Nat.le_refl _) (Nat.zero_le _) rfl) _ rfl a (ha.grew ((Below.refl _ _).alloc (Nat.le_refl _) _)) (by simp; omega) (by simp) ?_; intro v' w1 hown1 hB1 _)
    go_ret
    exact ⟨_, rfl, hown1, ((Below.refl _ _).alloc (Nat.le_refl _) _).trans hB1⟩

/-- the text of bytes -/
abbrev str (l : List UInt8) : Value := .string ⟨l.toArray⟩
theorem foldl_push (l : List UInt8) (s : ByteArray) : (l.map fun x => (x.toNat : Int)).foldl (fun r n => r.push (UInt8.ofNat n.toNat)) s = ⟨s.data ++ l.toArray⟩ := by
  induction l generalizing s with
  | nil => simp
  | cons x l ih =>
    simp only [List.map_cons, List.foldl_cons]
    rw [ih]
    simp [ByteArray.push]
theorem conv_bs (l : List UInt8) (v : Value) (w : World) (h : Bs w v l) : (convert 22 9 v).run Try.prog w = .ok (str l) w := by
  rcases h.shape with ⟨rfl, h0, h1⟩ | ⟨ad, cap, rfl, h1, h2, h3, h4⟩
  · obtain rfl : l = [] := List.eq_nil_of_length_eq_zero h0
    rw [run_convert_bytes_string w _ _ _ _ _ _ Try.underlying22 Try.underlying5 Try.underlying9]
    simp [Conv.bytesToString, Sem.run_pure, str]
    rfl
  · rw [run_convert_bytes_string w _ _ _ _ _ _ Try.underlying22 Try.underlying5 Try.underlying9]
    have e : bv l = (l.map fun x => (x.toNat : Int)).map (Value.int .u8) := by simp [bv]
    have hl := run_loadCells_list (P := Try.prog) (w := w) ad (bv l) h4
    rw [bv_length] at hl
    rw [run_bytesToString w _ _ _ (l.map fun x => (x.toNat : Int)) (by rw [hl, e])]
    rw [foldl_push]
    simp [str]
theorem toList_mk (l : List UInt8) : (ByteArray.mk l.toArray).toList = l := by
  rw [ByteArray.toList_eq]

theorem equal_any (a b : List UInt8) (va vb : Value) (w : World) (ha : Bs w va a) (hb : Bs w vb b) :
    Calls Try.prog 48 #[va, vb] w fun e w' => e = .returned (.bool (a == b)) ∧ w = w' := by
  have e1 := conv_bs a va w ha
  have e2 := conv_bs b vb w hb
  have e3 := toList_mk a
  have e4 := toList_mk b
  obtain ⟨aa, ca, rfl, -⟩ := ha.open
  obtain ⟨ab, cb, rfl, -⟩ := hb.open
  clear ha hb
  go_enter Try.func48, Try.ntmps48
  go_wp2
  go_ret
  exact ⟨rfl, rfl⟩

end Go.Proofs.Ytcibhkiddeggmaa
